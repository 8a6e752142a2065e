/- The small tree with two links, of the paths' laws, plain. -/
import Derived.Test.YtdidhelkmnkhcaaGreatDoorSmall
import Derived.Test.YtdidhelkmnkhcaaGreatDoorM5
import Derived.Test.YtdidhelkmnkhcaaGreatDoorM1
namespace Go.Proofs.YtdidhelkmnkhcaaGreatDoor
def linkT : TTree := ⟨[zNode, ⟨2, 493, 0, 0, 3, 0, [], ⟨#[]⟩, [⟨⟨#[97]⟩, 2⟩, ⟨⟨#[108]⟩, 4⟩, ⟨⟨#[109]⟩, 5⟩], 1⟩, ⟨2, 493, 0, 0, 2, 0, [], ⟨#[]⟩, [⟨⟨#[98]⟩, 3⟩], 1⟩, ⟨1, 420, 0, 0, 1, 0, [104, 101, 108, 108, 111], ⟨#[]⟩, [], 0⟩, ⟨3, 511, 0, 0, 1, 0, [], ⟨#[97, 47, 98]⟩, [], 0⟩, ⟨3, 511, 0, 0, 1, 0, [], ⟨#[109]⟩, [], 0⟩], 0⟩
theorem lname_a : nameOK ⟨#[97]⟩ = true := by rw [nameOK, ByteArray.toList_eq]; decide
theorem lname_b : nameOK ⟨#[98]⟩ = true := by rw [nameOK, ByteArray.toList_eq]; decide
theorem lname_l : nameOK ⟨#[108]⟩ = true := by rw [nameOK, ByteArray.toList_eq]; decide
theorem lname_m : nameOK ⟨#[109]⟩ = true := by rw [nameOK, ByteArray.toList_eq]; decide
theorem llt_al : strLt ⟨#[97]⟩ ⟨#[108]⟩ = true := by unfold strLt; rw [ByteArray.toList_eq, ByteArray.toList_eq]; decide
theorem llt_lm : strLt ⟨#[108]⟩ ⟨#[109]⟩ = true := by unfold strLt; rw [ByteArray.toList_eq, ByteArray.toList_eq]; decide
theorem link_lists : ∀ i n, linkT.nodes[i]? = some n → listOK linkT i n := fun i n hi => by
  match i, hi with
  | 0, hi => cases hi; intro j e hj; exact absurd hj (Nat.not_lt_zero _)
  | 1, hi =>
    cases hi
    intro j e hj he
    match j, he with
    | 0, he => cases he; exact ⟨lname_a, fun q hq => by simp at hq, by decide, by decide, by decide, fun _ => by decide⟩
    | 1, he => cases he; exact ⟨lname_l, fun q hq => by cases hq; exact llt_al, by decide, by decide, by decide, fun h => absurd h (by decide)⟩
    | 2, he => cases he; exact ⟨lname_m, fun q hq => by cases hq; exact llt_lm, by decide, by decide, by decide, fun h => absurd h (by decide)⟩
  | 2, hi =>
    cases hi
    intro j e hj he
    match j, he with
    | 0, he => cases he; exact ⟨lname_b, fun q hq => by simp at hq, by decide, by decide, by decide, fun h => absurd h (by decide)⟩
  | 3, hi => cases hi; intro j e hj; exact absurd hj (Nat.not_lt_zero _)
  | 4, hi => cases hi; intro j e hj; exact absurd hj (Nat.not_lt_zero _)
  | 5, hi => cases hi; intro j e hj; exact absurd hj (Nat.not_lt_zero _)
theorem link_links : ∀ i n, linkT.nodes[i]? = some n → linkOK linkT i n := fun i n hi => by
  match i, hi with
  | 0, hi => cases hi; exact ⟨fun h => absurd h (by decide), fun h => absurd h (by decide)⟩
  | 1, hi => cases hi; exact ⟨fun _ => ⟨by decide, fun h => absurd h (by decide), by decide⟩, fun h => absurd h (by decide)⟩
  | 2, hi => cases hi; exact ⟨fun _ => ⟨by decide, fun _ => by decide, by decide⟩, fun h => absurd h (by decide)⟩
  | 3, hi => cases hi; exact ⟨fun h => absurd h (by decide), fun _ => ⟨by decide, by decide⟩⟩
  | 4, hi => cases hi; exact ⟨fun h => absurd h (by decide), fun _ => ⟨by decide, by decide⟩⟩
  | 5, hi => cases hi; exact ⟨fun h => absurd h (by decide), fun _ => ⟨by decide, by decide⟩⟩
theorem link_ok : TreeOK linkT := ⟨⟨by decide, by decide, by decide, by decide, by decide, by decide, by decide, by decide⟩, by decide, link_lists, by decide, by decide, link_links⟩
theorem link_yes : treeOK linkT = true := treeOK_yes link_ok
theorem link_fits : linkT.Fits := by
  refine ⟨by decide, ?_, by unfold I64; decide⟩
  intro n hn
  have h : n ∈ [zNode, ⟨2, 493, 0, 0, 3, 0, [], ⟨#[]⟩, [⟨⟨#[97]⟩, 2⟩, ⟨⟨#[108]⟩, 4⟩, ⟨⟨#[109]⟩, 5⟩], 1⟩, ⟨2, 493, 0, 0, 2, 0, [], ⟨#[]⟩, [⟨⟨#[98]⟩, 3⟩], 1⟩, ⟨1, 420, 0, 0, 1, 0, [104, 101, 108, 108, 111], ⟨#[]⟩, [], 0⟩, ⟨3, 511, 0, 0, 1, 0, [], ⟨#[97, 47, 98]⟩, [], 0⟩, ⟨3, 511, 0, 0, 1, 0, [], ⟨#[109]⟩, [], 0⟩] := hn
  simp only [List.mem_cons, List.not_mem_nil, or_false] at h
  rcases h with rfl | rfl | rfl | rfl | rfl | rfl <;> refine ⟨by decide, by unfold I64; decide, by unfold I64; decide, by unfold I64; decide, by unfold I64; decide, by unfold I64; decide, by unfold I64; decide, by decide, by decide, by decide, fun e he => ?_⟩
  · cases he
  · simp only [List.mem_cons, List.not_mem_nil, or_false] at he
    rcases he with rfl | rfl | rfl <;> exact ⟨by decide, by unfold I64; decide⟩
  · rcases List.mem_singleton.1 he with rfl; exact ⟨by decide, by unfold I64; decide⟩
  · cases he
  · cases he
  · cases he
theorem link_perm : permB linkT 0 0 0 1 = true := by unfold permB; rw [link_yes]; decide
theorem link_find (p : List UInt8) (f : Bool) (r : PlaceV × Int) (h : inS linkT 0 0 1 p f = r) : findS linkT 0 0 0 1 p f = r := by unfold findS; rw [link_perm, if_pos rfl]; exact h
theorem link_find1 : findS linkT 0 0 0 1 [97, 47, 47, 46, 47, 98] false = (⟨2, [98], 3, false⟩, 0) := link_find _ _ _ (by kernel_rfl)
theorem link_find2 : findS linkT 0 0 0 1 [108] true = (⟨2, [98], 3, false⟩, 0) := link_find _ _ _ (by kernel_rfl)
theorem link_find3 : findS linkT 0 0 0 1 [108] false = (⟨1, [108], 4, false⟩, 0) := link_find _ _ _ (by kernel_rfl)
theorem link_find4 : findS linkT 0 0 0 1 [109, 47, 120] false = (noPlace, 12) := link_find _ _ _ (by kernel_rfl)
theorem link_find5 : findS linkT 0 0 0 1 [97, 47, 98, 47] false = (noPlace, 9) := link_find _ _ _ (by kernel_rfl)
theorem link_find6 : findS linkT 0 0 0 1 [97, 47, 46, 46] false = (⟨1, [], 1, false⟩, 0) := link_find _ _ _ (by kernel_rfl)
theorem link_base : baseS [47, 97, 47, 98, 47, 47] = [98] := by decide
theorem link_dir1 : dirS [47, 97, 47, 98, 47, 47] = [47, 97] := by decide
theorem link_dir2 : dirS [97] = [46] := by decide
end Go.Proofs.YtdidhelkmnkhcaaGreatDoor
