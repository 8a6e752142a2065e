/- TreeNew: each new tree is the same, may be, and shares nothing with another one. -/
import Derived.Test.YtdceechakocgfaaGreatDoorLives
import Derived.Test.YtdceechakocgfaaGreatDoorApart
import Derived.Test.YtdceechakocgfaaGreatDoorSame
namespace Go.Proofs.YtdceechakocgfaaGreatDoor
open Go.RowKit
attribute [local go_sem] Later.cell_eq
def newRows : List (List Value) := [node0.toList, (nodeR (.slice none 0 0) 2).toList]
/-- A new tree's nodes, as a list that is held. -/
theorem new_own {w : World} {B b : Nat} (hB : B ≤ b) (h : w.heap[b]? = some (.cells (node0 ++ nodeR (.slice none 0 0) 2) 74 (0, 0))) : Own w B 74 10 (.slice (some ⟨b, 0, none⟩) newRows.length 2) newRows :=
  ⟨⟨by decide, .inr ⟨b, 2, _, rfl, hB, h, by decide, by unfold maxLen; decide, by decide, rfl⟩⟩, fun r hr => by
    simp only [newRows, List.mem_cons, List.not_mem_nil, or_false] at hr
    rcases hr with rfl | rfl <;> rfl⟩
theorem new_nodes (w : World) (B : Nat) (lab : Lab) (nb ne : Nat) : NodesOf w B lab nb ne newRows := by
  intro i hi
  match i, hi with
  | 0, _ => exact ⟨_, _, _, _, _, _, _, _, none, none, 0, 0, 0, 0, [], [], rfl, Own.nil _ _ _ _, by decide, fun k hk => (by simp [Value.ownBlock] at hk), Own.nil _ _ _ _, by decide, fun k hk => (by simp [Value.ownBlock] at hk)⟩
  | 1, _ => exact ⟨_, _, _, _, _, _, _, _, none, none, 0, 0, 0, 0, [], [], rfl, Own.nil _ _ _ _, by decide, fun k hk => (by simp [Value.ownBlock] at hk), Own.nil _ _ _ _, by decide, fun k hk => (by simp [Value.ownBlock] at hk)⟩
theorem new_files : (tFiles newT : Int) = 1 := by unfold tFiles; rw [new_yes]; decide
theorem new_bytes : (tBytes newT : Int) = 0 := by unfold tBytes; rw [new_yes]; decide
/-- What the law keeps from round to round. -/
structure NewAt (w : World) (bk i : Nat) (wr : World) : Prop where
  ex : ∃ lab : Lab, BookIs wr w.heap.size lab bk (5 * i) (2 * i) (2 * i) i ∧ ∀ k, k < w.heap.size → lab k = (0, 0)
  below : Below w.heap.size w wr
theorem NewAt.keep {w : World} {bk i : Nat} {wr wr' : World} (h : NewAt w bk i wr) (hb : Below wr.heap.size wr wr') : NewAt w bk i wr' := by
  obtain ⟨lab, h1, h2⟩ := h.ex
  exact ⟨⟨lab, h1.keep hb, h2⟩, below_step h.below hb⟩
theorem NewAt.start (w : World) : NewAt w w.heap.size 0 (w.alloc (.cells (bookV 0 (.slice none 0 0) (.slice none 0 0) (.slice none 0 0)) 35)) := by
  refine ⟨⟨fun k => if k = w.heap.size then (0, 1) else (0, 0), ⟨KS.empty, KS.empty, KS.empty, ⟨heap_alloc_new w _, by simp, Nat.le_refl _, fun k hk => ?_, Kind.empty _ _ _ _ _ _ _, Kind.empty _ _ _ _ _ _ _, Kind.empty _ _ _ _ _ _ _⟩, Neat.empty _, Neat.empty _, Neat.empty _, rfl, rfl, rfl⟩, fun k hk => ?_⟩, below_alloc (Below.refl _ _) _⟩
  · have : k ≠ w.heap.size := by simp at hk; omega
    simp [this]
  · have : k ≠ w.heap.size := by omega
    simp [this]
/-- The new tree's nodes are to be held next. -/
structure NewBy (w : World) (bk i b : Nat) (wr : World) : Prop where
  ex : ∃ lab : Lab, BookIs wr w.heap.size lab bk (5 * i) (2 * i) (2 * i) i ∧ (∀ k, k < w.heap.size → lab k = (0, 0)) ∧ lab b = (10, i + 1)
  below : Below w.heap.size w wr
  row : wr.heap[b]? = some (.cells (node0 ++ nodeR (.slice none 0 0) 2) 74 (0, 0))
  low : w.heap.size ≤ b
theorem NewBy.keep {w : World} {bk i b : Nat} {wr wr' : World} (h : NewBy w bk i b wr) (hb : Below wr.heap.size wr wr') : NewBy w bk i b wr' := by
  obtain ⟨lab, h1, h2⟩ := h.ex
  exact ⟨⟨lab, h1.keep hb, h2⟩, below_step h.below hb, (hb.block b (Array.getElem?_eq_some_iff.1 h.row).1).trans h.row, h.low⟩
theorem NewBy.at {w : World} {bk i b : Nat} {wr : World} (h : NewBy w bk i b wr) : NodesAt wr (some ⟨b, 0, none⟩) newT.nodes := new_at h.row
theorem NewAt.grab {w : World} {bk i b : Nat} {wr w1 : World} (h : NewAt w bk i wr) (hb : Below wr.heap.size wr w1) (hl : wr.heap.size ≤ b) (hrow : w1.heap[b]? = some (.cells (node0 ++ nodeR (.slice none 0 0) 2) 74 (0, 0))) : NewBy w bk i b w1 := by
  obtain ⟨lab, h1, h2⟩ := h.ex
  have hlt := (Array.getElem?_eq_some_iff.1 hrow).1
  have hwb : w.heap.size ≤ b := Nat.le_trans h.below.size hl
  refine ⟨⟨fun k => if k = b then (10, i + 1) else lab k, (h1.keep hb).relabel (fun k hk => ?_) fun k hk => ?_, fun k hk => ?_, by simp⟩, below_step h.below hb, hrow, hwb⟩
  · by_cases e : k = b
    · subst e; exact absurd (h1.fresh k hl) hk
    · simp [e]
  · have e : k ≠ b := by omega
    simp [e, h1.fresh k (Nat.le_trans hb.size hk)]
  · have e : k ≠ b := by omega
    simp [e, h2 k hk]
theorem NewBy.tree {w : World} {bk i b : Nat} {wr : World} (h : NewBy w bk i b wr) (hi : i ≤ 20) (now : Value) :
    Calls Tryz.prog 10 #[.pointer (some ⟨bk, 0, none⟩), .agg #[.slice (some ⟨b, 0, none⟩) 2 2, now]] wr fun e w' => e = .returned (.tuple #[]) ∧ NewAt w bk (i + 1) w' := by
  obtain ⟨lab, h1, h2, h3⟩ := h.ex
  refine (tree_kept w wr lab bk (5 * i) (2 * i) (2 * i) i h1 h.below newRows (by decide) (by omega) (by omega) (some ⟨b, 0, none⟩) 2 now (new_own h.low h.row) (fun k hk => by simp [Value.ownBlock] at hk; subst hk; exact h3) (new_nodes _ _ _ _ _)).mono ?_
  rintro _ w' ⟨rfl, hk⟩
  obtain ⟨lab', e1, e2⟩ := hk.ex
  refine ⟨rfl, ⟨lab', ?_, fun k hk' => (e1 k (Nat.lt_of_lt_of_le hk' h.below.size)).trans (h2 k hk')⟩, hk.below⟩
  have : (5 * (i : Int) + 2 * (newRows.length : Int) + 1) = 5 * ((i + 1 : Nat) : Int) := by
    show 5 * (i : Int) + 2 * ((2 : Nat) : Int) + 1 = _
    omega
  rw [this] at e2
  exact e2
theorem NewAt.apart {w : World} {bk i : Nat} {wr : World} (h : NewAt w bk i wr) (hi : i ≤ 19) :
    Calls Tryz.prog 11 #[.pointer (some ⟨bk, 0, none⟩)] wr fun e w' => e = .returned (.bool true) ∧ Below w.heap.size w w' := by
  obtain ⟨lab, h1, h2⟩ := h.ex
  refine (apart_calls wr w.heap.size lab bk _ _ _ _ h1 h.below.size (by omega) (by omega)).mono ?_
  rintro _ w' ⟨rfl, hT⟩
  exact ⟨rfl, below_turned h.below hT (fun k hk hs => by unfold Tn at hs; rw [h2 k hk] at hs; exact hs rfl) h.below.size⟩
theorem newS_intro {w : World} {bk i b : Nat} {wr : World} {ht : Nat} {u v : Value} (h : NewBy w bk i b wr) (h0 : wr.cell? ⟨ht, 0, none⟩ = some u) (h1 : wr.cell? ⟨ht, 1, none⟩ = some v) : NewBy w bk i b wr ∧ wr.cell? ⟨ht, 0, none⟩ = some u ∧ wr.cell? ⟨ht, 1, none⟩ = some v := ⟨h, h0, h1⟩
theorem newS_drew {w : World} {bk i b : Nat} {wr : World} {ht : Nat} {u v : Value} (h : NewBy w bk i b wr ∧ wr.cell? ⟨ht, 0, none⟩ = some u ∧ wr.cell? ⟨ht, 1, none⟩ = some v) : NewBy w bk i b wr.drew ∧ wr.drew.cell? ⟨ht, 0, none⟩ = some u ∧ wr.drew.cell? ⟨ht, 1, none⟩ = some v := ⟨h.1.keep (Below.refl _ _).drew, h.2⟩
theorem newS_keep {w : World} {bk i b : Nat} {wr wr' : World} {ht : Nat} {u v : Value} (hb : Below wr.heap.size wr wr') (h : NewBy w bk i b wr ∧ wr.cell? ⟨ht, 0, none⟩ = some u ∧ wr.cell? ⟨ht, 1, none⟩ = some v) : NewBy w bk i b wr' ∧ wr'.cell? ⟨ht, 0, none⟩ = some u ∧ wr'.cell? ⟨ht, 1, none⟩ = some v := ⟨h.1.keep hb, cell_keep hb h.2.1, cell_keep hb h.2.2⟩
set_option maxHeartbeats 4000000 in
theorem treeNew_calls (k : Int) (wf : (Lit.int .u8 k).wf = true) (w : World) :
    Calls Tryz.prog 3 #[.int .u8 k] w fun e w' => e = .returned (.bool true) ∧ Below w.heap.size w w' := by
  have hk : 0 ≤ k ∧ k ≤ 255 := by
    have h0 : IntKind.u8.min = 0 := by decide
    have h1 : IntKind.u8.max = 255 := by decide
    simp [Lit.wf, h0, h1] at wf
    exact wf
  obtain ⟨m, hm⟩ : ∃ m : Nat, k % 20 = (m : Int) := ⟨(k % 20).toNat, by omega⟩
  have hm20 : m ≤ 19 := by omega
  have HS := Lib.hid (NewAt.start w)
  clear wf
  go_enter Tryz.func3, Tryz.ntmps3
  go_wp2
  obtain ⟨wb, hwb⟩ : ∃ x, x = w.alloc (.cells (bookV 0 (.slice none 0 0) (.slice none 0 0) (.slice none 0 0)) 35) := ⟨_, rfl⟩
  rw [← hwb] at HS
  rw [show w.alloc (.cells #[.int .i64 0, .slice none 0 0, .slice none 0 0, .slice none 0 0, .slice none 0 0, .slice none 0 0, .slice none 0 0, .slice none 0 0, .slice none 0 0, .slice none 0 0, .slice none 0 0, .slice none 0 0, .slice none 0 0] 35) = wb from hwb.symm]
  obtain ⟨bk, hbk⟩ : ∃ x, x = w.heap.size := ⟨_, rfl⟩
  rw [← hbk] at HS
  rw [← hbk]
  clear hwb hbk
  go_loopg [4] m (fun g s4 wr => ∃ i : Nat, i + g = m ∧ s4 = .int .i64 i ∧ Hid (NewAt w bk i wr))
  case atStart => exact ⟨0, by omega, rfl, HS⟩
  case round =>
    clear HS
    obtain ⟨i, hg, rfl, HN⟩ := hrel
    cases gk with
    | zero =>
      obtain rfl : i = m := by omega
      have hd : decide ((i : Int) < k % 20) = false := decide_eq_false (by omega)
      go_wp2_with (first
        | (go_at_call 11; refine (HN.out.apart hm20).mono ?_; rintro _ w1 ⟨rfl, hb1⟩; have HB1 := Lib.hid hb1; clear hb1)
        | (go_at_call 12; refine (lives_calls _).mono ?_; rintro _ w2 ⟨rfl, hb2⟩; have HB2 := Lib.hid (below_step HB1.out hb2); clear hb2))
      go_ret
      exact ⟨rfl, HB2.out⟩
    | succ g =>
      have hd : decide ((i : Int) < k % 20) = true := decide_eq_true (by omega)
      go_upto_region 6 with (go_at_call 6; refine (new_calls _).mono ?_; rintro _ w1 ⟨b1, ⟨rfl, hl1, hrow1⟩, hb1⟩; have HG1 := Lib.hid (HN.out.grab hb1 hl1 hrow1); clear hl1 hrow1 hb1)
      obtain ⟨wt, hwt⟩ : ∃ x, x = w1.alloc (.cells #[.slice (some ⟨b1, 0, none⟩) 2 2, .int .i64 0] 38) := ⟨_, rfl⟩
      have t0 : wt.cell? ⟨w1.heap.size, 0, none⟩ = some (.slice (some ⟨b1, 0, none⟩) 2 2) := by rw [hwt, cell_of_row _ _ _ _ _ _ (heap_alloc_new w1 _)]; rfl
      have t1 : wt.cell? ⟨w1.heap.size, 1, none⟩ = some (.int .i64 0) := by rw [hwt, cell_of_row _ _ _ _ _ _ (heap_alloc_new w1 _)]; rfl
      have HGt := Lib.hid (HG1.out.keep (wr' := wt) (by rw [hwt]; exact below_alloc (Below.refl _ _) _))
      rw [← hwt]
      obtain ⟨ht, hht⟩ : ∃ x, x = w1.heap.size := ⟨_, rfl⟩
      rw [← hht] at t0 t1
      rw [← hht]
      clear hwt hht HG1
      go_upto_region 7 with (go_at_call 7; refine (sizes_calls newT new_fits (some ⟨b1, 0, none⟩) 2 _ HGt.out.at).mono ?_; rintro _ w2 ⟨rfl, hb2⟩; rw [new_files, new_bytes]; have HG2 := Lib.hid (HGt.out.keep hb2); replace t0 := cell_keep hb2 t0; replace t1 := cell_keep hb2 t1; clear hb2)
      clear HGt
      obtain ⟨wo, rfl⟩ : ∃ wo : World, wo = w2 := ⟨_, rfl⟩
      have hS := newS_intro HG2.out t0 t1
      clear t0 t1
      go_region_held3 (fun w' => NewBy w bk i b1 w' ∧ w'.cell? ⟨ht, 0, none⟩ = some (.slice (some ⟨b1, 0, none⟩) 2 2) ∧ w'.cell? ⟨ht, 1, none⟩ = some (.int .i64 0)) ((first | with_reducible assumption | with_reducible exact newS_drew (by with_reducible assumption)))
        (first
          | (go_at_call 8; have hH := ‹NewBy w bk i b1 _ ∧ _›; refine (check_calls newT new_fits (some ⟨b1, 0, none⟩) 2 _ hH.1.at).mono ?_; rintro _ w3 ⟨rfl, hb3⟩; rw [new_yes]; have hS3 := newS_keep hb3 hH; clear hH hb3)
          | (go_at_call 6; have hH := ‹NewBy w bk i b1 _ ∧ _›; refine (new_calls _).mono ?_; rintro _ w4 ⟨b4, ⟨rfl, hl4, hrow4⟩, hb4⟩; have HR4 := Lib.hid hrow4; have hS4 := newS_keep hb4 hH; clear hH hl4 hrow4 hb4)
          | (go_at_call 9; have hH := ‹NewBy w bk i b1 _ ∧ _›; refine (sameTree_calls newT (by decide) (by decide) (some ⟨b1, 0, none⟩) (some ⟨b4, 0, none⟩) 2 2 _ hH.1.at (new_at HR4.out)).mono ?_; rintro _ w5 ⟨rfl, hb5⟩; have hS5 := newS_keep hb5 hH; clear hH hb5))
      obtain ⟨hN5, q0, q1⟩ := hS5
      have HN5 := Lib.hid hN5
      clear hN5 hS hS3 hS4
      go_wp2_with (go_at_call 10; refine (HN5.out.tree (by omega) _).mono ?_; rintro _ w6 ⟨rfl, hn6⟩; have HN6 := Lib.hid hn6; clear hn6)
      go_roundg g
      case measure => omega
      case rel => exact ⟨i + 1, by omega, by go_num, HN6⟩
end Go.Proofs.YtdceechakocgfaaGreatDoor
