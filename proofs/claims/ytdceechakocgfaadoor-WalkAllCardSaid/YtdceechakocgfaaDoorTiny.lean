/- The small trees of 'lives', plain. -/
import Derived.Test.YtdceechakocgfaaDoorSmall
namespace Go.Proofs.YtdceechakocgfaaDoor
def newT : TTree := ⟨[zNode, ⟨2, 493, 0, 0, 2, 0, [], ⟨#[]⟩, [], 1⟩], 0⟩
def noT : TTree := ⟨[], 0⟩
theorem name_a : nameOK ⟨#[97]⟩ = true := by rw [nameOK, ByteArray.toList_eq]; decide
theorem name_b : nameOK ⟨#[98]⟩ = true := by rw [nameOK, ByteArray.toList_eq]; decide
theorem small_lists : ∀ i n, smallT.nodes[i]? = some n → listOK smallT i n := fun i n hi => by
  match i, hi with
  | 0, hi => cases hi; intro j e hj; exact absurd hj (Nat.not_lt_zero _)
  | 1, hi =>
    cases hi
    intro j e hj he
    match j, he with
    | 0, he => cases he; exact ⟨name_a, fun q hq => by simp at hq, by decide, by decide, by decide, fun _ => by decide⟩
  | 2, hi =>
    cases hi
    intro j e hj he
    match j, he with
    | 0, he => cases he; exact ⟨name_b, fun q hq => by simp at hq, by decide, by decide, by decide, fun h => absurd h (by decide)⟩
  | 3, hi => cases hi; intro j e hj; exact absurd hj (Nat.not_lt_zero _)
theorem small_links : ∀ i n, smallT.nodes[i]? = some n → linkOK smallT i n := fun i n hi => by
  match i, hi with
  | 0, hi => cases hi; exact ⟨fun h => absurd h (by decide), fun h => absurd h (by decide)⟩
  | 1, hi => cases hi; exact ⟨fun _ => ⟨by decide, fun h => absurd h (by decide), by decide⟩, fun h => absurd h (by decide)⟩
  | 2, hi => cases hi; exact ⟨fun _ => ⟨by decide, fun _ => by decide, by decide⟩, fun h => absurd h (by decide)⟩
  | 3, hi => cases hi; exact ⟨fun h => absurd h (by decide), fun _ => ⟨by decide, by decide⟩⟩
theorem small_ok : TreeOK smallT := ⟨⟨by decide, by decide, by decide, by decide, by decide, by decide, by decide, by decide⟩, by decide, small_lists, by decide, by decide, small_links⟩
theorem new_ok : TreeOK newT := ⟨⟨by decide, by decide, by decide, by decide, by decide, by decide, by decide, by decide⟩, by decide, fun i n hi => by
  match i, hi with
  | 0, hi => cases hi; intro j e hj; exact absurd hj (Nat.not_lt_zero _)
  | 1, hi => cases hi; intro j e hj; exact absurd hj (Nat.not_lt_zero _), by decide, by decide, fun i n hi => by
  match i, hi with
  | 0, hi => cases hi; exact ⟨fun h => absurd h (by decide), fun h => absurd h (by decide)⟩
  | 1, hi => cases hi; exact ⟨fun _ => ⟨by decide, fun h => absurd h (by decide), by decide⟩, fun h => absurd h (by decide)⟩⟩
theorem no_ok : ¬ TreeOK noT := fun h => absurd h.head.two (by decide)
theorem small_fits : smallT.Fits := by
  refine ⟨by decide, ?_, by unfold I64; decide⟩
  intro n hn
  have h : n ∈ [zNode, ⟨2, 493, 0, 0, 3, 0, [], ⟨#[]⟩, [⟨⟨#[97]⟩, 2⟩], 1⟩, ⟨2, 493, 0, 0, 2, 0, [], ⟨#[]⟩, [⟨⟨#[98]⟩, 3⟩], 1⟩, ⟨1, 420, 0, 0, 1, 0, [104, 101, 108, 108, 111], ⟨#[]⟩, [], 0⟩] := hn
  simp only [List.mem_cons, List.not_mem_nil, or_false] at h
  rcases h with rfl | rfl | rfl | rfl <;> refine ⟨by decide, by unfold I64; decide, by unfold I64; decide, by unfold I64; decide, by unfold I64; decide, by unfold I64; decide, by unfold I64; decide, by decide, by decide, by decide, fun e he => ?_⟩
  · cases he
  · rcases List.mem_singleton.1 he with rfl; exact ⟨by decide, by unfold I64; decide⟩
  · rcases List.mem_singleton.1 he with rfl; exact ⟨by decide, by unfold I64; decide⟩
  · cases he
theorem new_fits : newT.Fits := by
  refine ⟨by decide, ?_, by unfold I64; decide⟩
  intro n hn
  have h : n ∈ [zNode, ⟨2, 493, 0, 0, 2, 0, [], ⟨#[]⟩, [], 1⟩] := hn
  simp only [List.mem_cons, List.not_mem_nil, or_false] at h
  rcases h with rfl | rfl <;> refine ⟨by decide, by unfold I64; decide, by unfold I64; decide, by unfold I64; decide, by unfold I64; decide, by unfold I64; decide, by unfold I64; decide, by decide, by decide, by decide, fun e he => ?_⟩
  · cases he
  · cases he
theorem no_fits : noT.Fits := ⟨by decide, fun n hn => (by cases hn), by unfold I64; decide⟩
theorem small_yes : treeOK smallT = true := treeOK_yes small_ok
theorem new_yes : treeOK newT = true := treeOK_yes new_ok
theorem no_no : treeOK noT = false := treeOK_no no_ok
theorem small_dir2 : isDirB smallT 2 = true := by unfold isDirB; rw [small_yes]; decide
theorem small_dir3 : isDirB smallT 3 = false := by unfold isDirB; rw [small_yes]; decide
theorem small_path2 : tPath smallT 2 = ⟨#[47, 97]⟩ := by unfold tPath; rw [small_dir2, if_pos rfl]; decide
theorem small_pathE2 : tPathE smallT 2 = 0 := by unfold tPathE; rw [small_dir2, if_pos rfl]
theorem small_pathE3 : tPathE smallT 3 = 1 := by unfold tPathE; rw [small_dir3]; rfl
theorem small_depth2 : tDepth smallT 2 = 1 := by unfold tDepth; rw [small_dir2, if_pos rfl]; decide
theorem small_files : tFiles smallT = 3 := by unfold tFiles; rw [small_yes, if_pos rfl]; decide
theorem small_bytes : tBytes smallT = 5 := by unfold tBytes; rw [small_yes, if_pos rfl]; decide
theorem small_node2 : isNodeB smallT 2 = true := by unfold isNodeB; rw [small_yes]; decide
theorem small_node9 : isNodeB smallT 9 = false := by unfold isNodeB; rw [small_yes]; decide
theorem small_stat2 : tStat smallT 2 = .agg #[.int .i64 2, .int .u8 2, .int .i64 493, .int .i64 0, .int .i64 0, .int .i64 2, .int .i64 1, .int .i64 0] := by unfold tStat; rw [small_node2, if_pos rfl]; rfl
theorem small_statE2 : tStatE smallT 2 = 0 := by unfold tStatE; rw [small_node2, if_pos rfl]
theorem small_stat9 : tStat smallT 9 = .agg #[.int .i64 0, .int .u8 0, .int .i64 0, .int .i64 0, .int .i64 0, .int .i64 0, .int .i64 0, .int .i64 0] := by unfold tStat; rw [small_node9]; rfl
theorem small_statE9 : tStatE smallT 9 = 1 := by unfold tStatE; rw [small_node9]; rfl
end Go.Proofs.YtdceechakocgfaaDoor
