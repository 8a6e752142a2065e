/- The Book: a list is kept. -/
/- The Book's marks, and whether something is one. -/
/- The Book: a kind without lists is filled, grown and looked at in no round. -/
import Derived.Test.YtbfcfjgcmideeaaGreatDoorB1
import Derived.Test.YtbfcfjgcmideeaaGreatDoorProg
import Derived.WalkKit
import Derived.BigQuiet
import Derived.Deep.QuietTactic
import Derived.Lib.Hide
import Derived.Laws.EntriesVeiled
import Derived.StillTailTactics
import Derived.Deep.RegionHeld3
import Derived.Deep.MidRow
import Derived.Deep.Cut
import Derived.Deep.RegionLaw
import Derived.Deep.RegionHeldLaw
import Derived.Deep.AppendLies
import Derived.Great.BuildSlice
import Derived.Laws.CopyOwn
import Derived.Test.YtbfcfjgcmideeaaGreatDoorShelf
import Derived.Test.YtbfcfjgcmideeaaGreatDoorM2
import Derived.Lib.ItoaNum
import Derived.Lib.ItoaMem
import Derived.Lib.ItoaLen
import Derived.Lib.AppendIntMem
namespace Go.Proofs.YtbfcfjgcmideeaaGreatDoor
open Go.RowKit
attribute [local go_sem] Later.cell_eq
theorem set_get {cs : Array Value} {i : Nat} {v : Value} (h : cs[i]? = some v) (u : Value) : (cs.setIfInBounds i u)[i]? = some u := by
  simp [(Array.getElem?_eq_some_iff.1 h).1]
theorem set_get_ne (cs : Array Value) {i j : Nat} (u : Value) (h : i ≠ j) : (cs.setIfInBounds i u)[j]? = cs[j]? := Array.getElem?_setIfInBounds_ne h
/-- What keeping a list does. -/
def Kept (w : World) (W : World) (bk J : Nat) (T H : TypeId) (cs : Array Value) (n : Int) (sv l : Value) (rows : List (List Value)) (e : Ending) (w' : World) : Prop :=
  ∃ sv', (e = .returned (.tuple #[]) ∧ w'.heap[bk]? = some (.cells ((cs.setIfInBounds 0 (.int .i64 (n + 1))).setIfInBounds J sv') T (0, 0)) ∧ Own w' W.heap.size H 3 sv' (rows ++ [[l, .slice none 0 0, .int .i64 (n + 1)]])) ∧ Turned (fun k => k = bk ∨ sv.ownBlock = some k) w w' ∧ (sv'.ownBlock = sv.ownBlock ∨ ∃ k, sv'.ownBlock = some k ∧ w.heap.size ≤ k)
theorem kept_end {w W w1 w3 : World} {bk J : Nat} {T H : TypeId} {cs : Array Value} {n : Int} {sv l sv' : Value} {rows : List (List Value)} (o : Obj) (hT1 : Turned (fun k => k = bk ∨ sv.ownBlock = some k) w w1) (hr3 : w3.heap[bk]? = some (.cells (cs.setIfInBounds 0 (.int .i64 (n + 1))) T (0, 0)))
    (hO3 : Own w3 W.heap.size H 3 sv' (rows ++ [[l, .slice none 0 0, .int .i64 (n + 1)]])) (hg3 : (w1.alloc o).drew.grownBy w3 sv.ownBlock) (hv3 : sv'.ownBlock = sv.ownBlock ∨ sv'.ownBlock = some (w1.alloc o).drew.heap.size) (hne : sv.ownBlock ≠ some bk) (hbl : bk < w1.heap.size) :
    Kept w W bk J T H cs n sv l rows (.returned (.tuple #[])) (w3.setCell ⟨bk, J, none⟩ sv') := by
  have hB : Below w1.heap.size w1 (w1.alloc o).drew := (below_alloc (Below.refl _ _) o).drew
  refine ⟨sv', ⟨rfl, heap_setCell_same w3 bk J _ T _ hr3, hO3.turned (S := fun k => k = bk) (turned_set w3 bk J _ rfl) fun k hk e => ?_⟩, ?_, ?_⟩
  · subst e
    rcases hv3 with h | h
    · exact hne (h ▸ hk)
    · have := hB.size
      rw [h] at hk; cases hk; omega
  · refine hT1.trans (T := fun k => k = bk ∨ sv.ownBlock = some k) ?_ fun k _ h => h
    refine Turned.trans (w1 := (w1.alloc o).drew) (turned_below hB) (T := fun k => k = bk ∨ sv.ownBlock = some k) ?_ fun k _ h => h
    exact (turned_grown hg3 (S := fun k => k = bk ∨ sv.ownBlock = some k) fun k h => .inr h).trans (turned_set w3 bk J _ (.inl rfl)) fun k _ h => h
  · rcases hv3 with h | h
    · exact .inl h
    · exact .inr ⟨_, h, Nat.le_trans hT1.size hB.size⟩
theorem elem_hByte : Elem Tryz.prog 40 181 3 56 := Elem.mk' (z := .agg #[.slice none 0 0, .slice none 0 0, .int .i64 0]) Tryz.underlying40 (by kernel_rfl) rfl (by decide)
set_option maxHeartbeats 2000000 in
theorem keepByte_calls (W w : World) (bk : Nat) (cs : Array Value) (n : Int) (hn : 0 ≤ n ∧ n ≤ 1000000000) (sv : Value) (rows : List (List Value)) (A : Option Addr) (m c : Nat)
    (hbk : w.heap[bk]? = some (.cells cs 53 (0, 0))) (h0 : cs[0]? = some (.int .i64 n)) (h1 : cs[1]? = some sv) (hb : W.heap.size ≤ bk) (hH : Own w W.heap.size 181 3 sv rows) (hne : sv.ownBlock ≠ some bk) (hl : rows.length ≤ 1000000) (hW : Below W.heap.size W w) :
    Calls Tryz.prog 142 #[.pointer (some ⟨bk, 0, none⟩), .slice A m c] w (Kept w W bk 1 53 181 cs n sv (.slice A m c) rows) := by
  have k0 : w.cell? ⟨bk, 0, none⟩ = some (.int .i64 n) := (cell_of_row w bk 0 _ _ _ hbk).trans h0
  have f0 : w.frozen? ⟨bk, 0, none⟩ = false := frozen_of_row w bk 0 _ _ hbk
  have hsum : IntKind.i64.wrap (n + 1) = n + 1 := IntWalk.i64_in _ (by omega)
  have HBK := Lib.hid hbk
  have HC := Lib.hid (And.intro h0 h1)
  have HH := Lib.hid hH
  have HW := Lib.hid hW
  have HNE := Lib.hid hne
  clear hbk h0 h1 hH hW hne
  go_enter Tryz.func142, Tryz.ntmps142
  go_upto_region 1 with fail
  obtain ⟨w1, hw1⟩ : ∃ x, x = w.setCell ⟨bk, 0, none⟩ (.int .i64 (n + 1)) := ⟨_, rfl⟩
  have hb1 : w1.heap[bk]? = some (.cells (cs.setIfInBounds 0 (.int .i64 (n + 1))) 53 (0, 0)) := by rw [hw1]; exact heap_setCell_same w bk 0 cs _ _ HBK.out
  have hT1' : Turned (fun k => k = bk) w w1 := by rw [hw1]; exact turned_set w bk 0 _ rfl
  have hT1 : Turned (fun k => k = bk ∨ sv.ownBlock = some k) w w1 := hT1'.mono fun _ h => .inl h
  have hW1 : Below W.heap.size W w1 := by rw [hw1]; exact HW.out.setCell (by dsimp only; exact hb) _
  rw [← hw1]
  clear hw1 k0 f0
  have HB1 := Lib.hid hb1
  have HT1 := Lib.hid hT1
  have HW1 := Lib.hid hW1
  have HH1 := Lib.hid (HH.out.turned (S := fun k => k = bk) (w' := w1) hT1' (fun k hk e => HNE.out (by rw [hk, e])))
  have k0 := (cell_of_row w1 bk 0 _ _ _ hb1).trans (set_get HC.out.1 _)
  have k1 := (cell_of_row w1 bk 1 _ _ _ hb1).trans ((set_get_ne _ _ (by decide)).trans HC.out.2)
  have HBL := Lib.hid (Array.getElem?_eq_some_iff.1 hb1).1
  clear hb1 hT1 hT1' hW1
  have hao : ∀ o : Obj, (w1.alloc o).drew.cell? ⟨bk, 0, none⟩ = some (.int .i64 (n + 1)) ∧ (w1.alloc o).drew.cell? ⟨bk, 1, none⟩ = some sv := fun o => ⟨cell_new k0 o, cell_new k1 o⟩
  have ha0 : ∀ o : Obj, (w1.alloc o).cell? ⟨bk, 0, none⟩ = some (.int .i64 (n + 1)) := fun o => (hao o).1
  have ha1 : ∀ o : Obj, (w1.alloc o).cell? ⟨bk, 1, none⟩ = some sv := fun o => (hao o).2
  have HAO := Lib.hid hao
  clear hao
  go_region_law (first
    | (refine step_append_many (W := W) (A := some ⟨w1.heap.size, 0, none⟩) (m := 1) (c := 1) (by rfl) (.tmp 15) (.tmp 22) 40 (by rfl) elem_hByte rows.length (rows := rows) rfl (by simp [Act.eval]) ((HH1.out.alloc _).keep (Below.refl _ _).drew) ((below_alloc HW1.out _).drew) [[.slice A m c, .slice none 0 0, .int .i64 (n + 1)]] (by simp [Act.eval]) (fun h => by cases h) rfl (fun r hr => by simp at hr; rcases hr with rfl; rfl) (.inr ⟨_, 0, rfl, fun j u hu => by show (w1.alloc _).cell? _ = _; rw [cell_of_row _ _ _ _ _ _ (heap_alloc_new w1 _)]; simpa using hu⟩) (fun u hu => by simp at hu; rcases hu with rfl | rfl | rfl <;> rfl) (by unfold maxLen; omega) (by omega) ?_
       intro v' w3 hown3 hb3 hg3 hv3
       obtain ⟨A3, n3, c3, rfl⟩ := own_slice_ hown3
       have hr3 : w3.heap[bk]? = some (.cells (cs.setIfInBounds 0 (.int .i64 (n + 1))) 53 (0, 0)) := by
         refine (hg3.block bk (Nat.lt_of_lt_of_le HBL.out ((below_alloc (Below.refl w1.heap.size w1) _).drew).size) (fun e => HNE.out e.symm)).trans ?_
         show (w1.alloc _).heap[bk]? = _
         rw [heap_alloc_old _ _ HBL.out]; exact HB1.out
       have k3 : w3.cell? ⟨bk, 1, none⟩ = some sv := (cell_of_row w3 bk 1 _ _ _ hr3).trans ((set_get_ne _ _ (by decide)).trans HC.out.2)
       have f3 : w3.frozen? ⟨bk, 1, none⟩ = false := frozen_of_row w3 bk 1 _ _ hr3
       have HR3 := Lib.hid hr3
       have HO3 := Lib.hid hown3
       have HG3 := Lib.hid hg3
       clear hown3 hb3 hg3 hr3))
  all_goals refine bodyPost_end (v := .tuple #[]) (by kernel_rfl) rfl ?_
  all_goals exact kept_end _ HT1.out HR3.out HO3.out HG3.out hv3 HNE.out HBL.out
theorem elem_hEntry : Elem Tryz.prog 48 214 3 56 := Elem.mk' (z := .agg #[.slice none 0 0, .slice none 0 0, .int .i64 0]) Tryz.underlying48 (by kernel_rfl) rfl (by decide)
set_option maxHeartbeats 2000000 in
theorem keepEntry_calls (W w : World) (bk : Nat) (cs : Array Value) (n : Int) (hn : 0 ≤ n ∧ n ≤ 1000000000) (sv : Value) (rows : List (List Value)) (A : Option Addr) (m c : Nat)
    (hbk : w.heap[bk]? = some (.cells cs 53 (0, 0))) (h0 : cs[0]? = some (.int .i64 n)) (h1 : cs[9]? = some sv) (hb : W.heap.size ≤ bk) (hH : Own w W.heap.size 214 3 sv rows) (hne : sv.ownBlock ≠ some bk) (hl : rows.length ≤ 1000000) (hW : Below W.heap.size W w) :
    Calls Tryz.prog 258 #[.pointer (some ⟨bk, 0, none⟩), .slice A m c] w (Kept w W bk 9 53 214 cs n sv (.slice A m c) rows) := by
  have k0 : w.cell? ⟨bk, 0, none⟩ = some (.int .i64 n) := (cell_of_row w bk 0 _ _ _ hbk).trans h0
  have f0 : w.frozen? ⟨bk, 0, none⟩ = false := frozen_of_row w bk 0 _ _ hbk
  have hsum : IntKind.i64.wrap (n + 1) = n + 1 := IntWalk.i64_in _ (by omega)
  have HBK := Lib.hid hbk
  have HC := Lib.hid (And.intro h0 h1)
  have HH := Lib.hid hH
  have HW := Lib.hid hW
  have HNE := Lib.hid hne
  clear hbk h0 h1 hH hW hne
  go_enter Tryz.func258, Tryz.ntmps258
  go_upto_region 1 with fail
  obtain ⟨w1, hw1⟩ : ∃ x, x = w.setCell ⟨bk, 0, none⟩ (.int .i64 (n + 1)) := ⟨_, rfl⟩
  have hb1 : w1.heap[bk]? = some (.cells (cs.setIfInBounds 0 (.int .i64 (n + 1))) 53 (0, 0)) := by rw [hw1]; exact heap_setCell_same w bk 0 cs _ _ HBK.out
  have hT1' : Turned (fun k => k = bk) w w1 := by rw [hw1]; exact turned_set w bk 0 _ rfl
  have hT1 : Turned (fun k => k = bk ∨ sv.ownBlock = some k) w w1 := hT1'.mono fun _ h => .inl h
  have hW1 : Below W.heap.size W w1 := by rw [hw1]; exact HW.out.setCell (by dsimp only; exact hb) _
  rw [← hw1]
  clear hw1 k0 f0
  have HB1 := Lib.hid hb1
  have HT1 := Lib.hid hT1
  have HW1 := Lib.hid hW1
  have HH1 := Lib.hid (HH.out.turned (S := fun k => k = bk) (w' := w1) hT1' (fun k hk e => HNE.out (by rw [hk, e])))
  have k0 := (cell_of_row w1 bk 0 _ _ _ hb1).trans (set_get HC.out.1 _)
  have k1 := (cell_of_row w1 bk 9 _ _ _ hb1).trans ((set_get_ne _ _ (by decide)).trans HC.out.2)
  have HBL := Lib.hid (Array.getElem?_eq_some_iff.1 hb1).1
  clear hb1 hT1 hT1' hW1
  have hao : ∀ o : Obj, (w1.alloc o).drew.cell? ⟨bk, 0, none⟩ = some (.int .i64 (n + 1)) ∧ (w1.alloc o).drew.cell? ⟨bk, 9, none⟩ = some sv := fun o => ⟨cell_new k0 o, cell_new k1 o⟩
  have ha0 : ∀ o : Obj, (w1.alloc o).cell? ⟨bk, 0, none⟩ = some (.int .i64 (n + 1)) := fun o => (hao o).1
  have ha1 : ∀ o : Obj, (w1.alloc o).cell? ⟨bk, 9, none⟩ = some sv := fun o => (hao o).2
  have HAO := Lib.hid hao
  clear hao
  go_region_law (first
    | (refine step_append_many (W := W) (A := some ⟨w1.heap.size, 0, none⟩) (m := 1) (c := 1) (by rfl) (.tmp 15) (.tmp 22) 48 (by rfl) elem_hEntry rows.length (rows := rows) rfl (by simp [Act.eval]) ((HH1.out.alloc _).keep (Below.refl _ _).drew) ((below_alloc HW1.out _).drew) [[.slice A m c, .slice none 0 0, .int .i64 (n + 1)]] (by simp [Act.eval]) (fun h => by cases h) rfl (fun r hr => by simp at hr; rcases hr with rfl; rfl) (.inr ⟨_, 0, rfl, fun j u hu => by show (w1.alloc _).cell? _ = _; rw [cell_of_row _ _ _ _ _ _ (heap_alloc_new w1 _)]; simpa using hu⟩) (fun u hu => by simp at hu; rcases hu with rfl | rfl | rfl <;> rfl) (by unfold maxLen; omega) (by omega) ?_
       intro v' w3 hown3 hb3 hg3 hv3
       obtain ⟨A3, n3, c3, rfl⟩ := own_slice_ hown3
       have hr3 : w3.heap[bk]? = some (.cells (cs.setIfInBounds 0 (.int .i64 (n + 1))) 53 (0, 0)) := by
         refine (hg3.block bk (Nat.lt_of_lt_of_le HBL.out ((below_alloc (Below.refl w1.heap.size w1) _).drew).size) (fun e => HNE.out e.symm)).trans ?_
         show (w1.alloc _).heap[bk]? = _
         rw [heap_alloc_old _ _ HBL.out]; exact HB1.out
       have k3 : w3.cell? ⟨bk, 9, none⟩ = some sv := (cell_of_row w3 bk 9 _ _ _ hr3).trans ((set_get_ne _ _ (by decide)).trans HC.out.2)
       have f3 : w3.frozen? ⟨bk, 9, none⟩ = false := frozen_of_row w3 bk 9 _ _ hr3
       have HR3 := Lib.hid hr3
       have HO3 := Lib.hid hown3
       have HG3 := Lib.hid hg3
       clear hown3 hb3 hg3 hr3))
  all_goals refine bodyPost_end (v := .tuple #[]) (by kernel_rfl) rfl ?_
  all_goals exact kept_end _ HT1.out HR3.out HO3.out HG3.out hv3 HNE.out HBL.out
theorem elem_hNode : Elem Tryz.prog 49 217 3 56 := Elem.mk' (z := .agg #[.slice none 0 0, .slice none 0 0, .int .i64 0]) Tryz.underlying49 (by kernel_rfl) rfl (by decide)
set_option maxHeartbeats 2000000 in
theorem keepNode_calls (W w : World) (bk : Nat) (cs : Array Value) (n : Int) (hn : 0 ≤ n ∧ n ≤ 1000000000) (sv : Value) (rows : List (List Value)) (A : Option Addr) (m c : Nat)
    (hbk : w.heap[bk]? = some (.cells cs 53 (0, 0))) (h0 : cs[0]? = some (.int .i64 n)) (h1 : cs[10]? = some sv) (hb : W.heap.size ≤ bk) (hH : Own w W.heap.size 217 3 sv rows) (hne : sv.ownBlock ≠ some bk) (hl : rows.length ≤ 1000000) (hW : Below W.heap.size W w) :
    Calls Tryz.prog 151 #[.pointer (some ⟨bk, 0, none⟩), .slice A m c] w (Kept w W bk 10 53 217 cs n sv (.slice A m c) rows) := by
  have k0 : w.cell? ⟨bk, 0, none⟩ = some (.int .i64 n) := (cell_of_row w bk 0 _ _ _ hbk).trans h0
  have f0 : w.frozen? ⟨bk, 0, none⟩ = false := frozen_of_row w bk 0 _ _ hbk
  have hsum : IntKind.i64.wrap (n + 1) = n + 1 := IntWalk.i64_in _ (by omega)
  have HBK := Lib.hid hbk
  have HC := Lib.hid (And.intro h0 h1)
  have HH := Lib.hid hH
  have HW := Lib.hid hW
  have HNE := Lib.hid hne
  clear hbk h0 h1 hH hW hne
  go_enter Tryz.func151, Tryz.ntmps151
  go_upto_region 1 with fail
  obtain ⟨w1, hw1⟩ : ∃ x, x = w.setCell ⟨bk, 0, none⟩ (.int .i64 (n + 1)) := ⟨_, rfl⟩
  have hb1 : w1.heap[bk]? = some (.cells (cs.setIfInBounds 0 (.int .i64 (n + 1))) 53 (0, 0)) := by rw [hw1]; exact heap_setCell_same w bk 0 cs _ _ HBK.out
  have hT1' : Turned (fun k => k = bk) w w1 := by rw [hw1]; exact turned_set w bk 0 _ rfl
  have hT1 : Turned (fun k => k = bk ∨ sv.ownBlock = some k) w w1 := hT1'.mono fun _ h => .inl h
  have hW1 : Below W.heap.size W w1 := by rw [hw1]; exact HW.out.setCell (by dsimp only; exact hb) _
  rw [← hw1]
  clear hw1 k0 f0
  have HB1 := Lib.hid hb1
  have HT1 := Lib.hid hT1
  have HW1 := Lib.hid hW1
  have HH1 := Lib.hid (HH.out.turned (S := fun k => k = bk) (w' := w1) hT1' (fun k hk e => HNE.out (by rw [hk, e])))
  have k0 := (cell_of_row w1 bk 0 _ _ _ hb1).trans (set_get HC.out.1 _)
  have k1 := (cell_of_row w1 bk 10 _ _ _ hb1).trans ((set_get_ne _ _ (by decide)).trans HC.out.2)
  have HBL := Lib.hid (Array.getElem?_eq_some_iff.1 hb1).1
  clear hb1 hT1 hT1' hW1
  have hao : ∀ o : Obj, (w1.alloc o).drew.cell? ⟨bk, 0, none⟩ = some (.int .i64 (n + 1)) ∧ (w1.alloc o).drew.cell? ⟨bk, 10, none⟩ = some sv := fun o => ⟨cell_new k0 o, cell_new k1 o⟩
  have ha0 : ∀ o : Obj, (w1.alloc o).cell? ⟨bk, 0, none⟩ = some (.int .i64 (n + 1)) := fun o => (hao o).1
  have ha1 : ∀ o : Obj, (w1.alloc o).cell? ⟨bk, 10, none⟩ = some sv := fun o => (hao o).2
  have HAO := Lib.hid hao
  clear hao
  go_region_law (first
    | (refine step_append_many (W := W) (A := some ⟨w1.heap.size, 0, none⟩) (m := 1) (c := 1) (by rfl) (.tmp 15) (.tmp 22) 49 (by rfl) elem_hNode rows.length (rows := rows) rfl (by simp [Act.eval]) ((HH1.out.alloc _).keep (Below.refl _ _).drew) ((below_alloc HW1.out _).drew) [[.slice A m c, .slice none 0 0, .int .i64 (n + 1)]] (by simp [Act.eval]) (fun h => by cases h) rfl (fun r hr => by simp at hr; rcases hr with rfl; rfl) (.inr ⟨_, 0, rfl, fun j u hu => by show (w1.alloc _).cell? _ = _; rw [cell_of_row _ _ _ _ _ _ (heap_alloc_new w1 _)]; simpa using hu⟩) (fun u hu => by simp at hu; rcases hu with rfl | rfl | rfl <;> rfl) (by unfold maxLen; omega) (by omega) ?_
       intro v' w3 hown3 hb3 hg3 hv3
       obtain ⟨A3, n3, c3, rfl⟩ := own_slice_ hown3
       have hr3 : w3.heap[bk]? = some (.cells (cs.setIfInBounds 0 (.int .i64 (n + 1))) 53 (0, 0)) := by
         refine (hg3.block bk (Nat.lt_of_lt_of_le HBL.out ((below_alloc (Below.refl w1.heap.size w1) _).drew).size) (fun e => HNE.out e.symm)).trans ?_
         show (w1.alloc _).heap[bk]? = _
         rw [heap_alloc_old _ _ HBL.out]; exact HB1.out
       have k3 : w3.cell? ⟨bk, 10, none⟩ = some sv := (cell_of_row w3 bk 10 _ _ _ hr3).trans ((set_get_ne _ _ (by decide)).trans HC.out.2)
       have f3 : w3.frozen? ⟨bk, 10, none⟩ = false := frozen_of_row w3 bk 10 _ _ hr3
       have HR3 := Lib.hid hr3
       have HO3 := Lib.hid hown3
       have HG3 := Lib.hid hg3
       clear hown3 hb3 hg3 hr3))
  all_goals refine bodyPost_end (v := .tuple #[]) (by kernel_rfl) rfl ?_
  all_goals exact kept_end _ HT1.out HR3.out HO3.out HG3.out hv3 HNE.out HBL.out
theorem elem_hInt : Elem Tryz.prog 41 184 3 56 := Elem.mk' (z := .agg #[.slice none 0 0, .slice none 0 0, .int .i64 0]) Tryz.underlying41 (by kernel_rfl) rfl (by decide)
set_option maxHeartbeats 2000000 in
theorem keepInt_calls (W w : World) (bk : Nat) (cs : Array Value) (n : Int) (hn : 0 ≤ n ∧ n ≤ 1000000000) (sv : Value) (rows : List (List Value)) (A : Option Addr) (m c : Nat)
    (hbk : w.heap[bk]? = some (.cells cs 53 (0, 0))) (h0 : cs[0]? = some (.int .i64 n)) (h1 : cs[2]? = some sv) (hb : W.heap.size ≤ bk) (hH : Own w W.heap.size 184 3 sv rows) (hne : sv.ownBlock ≠ some bk) (hl : rows.length ≤ 1000000) (hW : Below W.heap.size W w) :
    Calls Tryz.prog 113 #[.pointer (some ⟨bk, 0, none⟩), .slice A m c] w (Kept w W bk 2 53 184 cs n sv (.slice A m c) rows) := by
  have k0 : w.cell? ⟨bk, 0, none⟩ = some (.int .i64 n) := (cell_of_row w bk 0 _ _ _ hbk).trans h0
  have f0 : w.frozen? ⟨bk, 0, none⟩ = false := frozen_of_row w bk 0 _ _ hbk
  have hsum : IntKind.i64.wrap (n + 1) = n + 1 := IntWalk.i64_in _ (by omega)
  have HBK := Lib.hid hbk
  have HC := Lib.hid (And.intro h0 h1)
  have HH := Lib.hid hH
  have HW := Lib.hid hW
  have HNE := Lib.hid hne
  clear hbk h0 h1 hH hW hne
  go_enter Tryz.func113, Tryz.ntmps113
  go_upto_region 1 with fail
  obtain ⟨w1, hw1⟩ : ∃ x, x = w.setCell ⟨bk, 0, none⟩ (.int .i64 (n + 1)) := ⟨_, rfl⟩
  have hb1 : w1.heap[bk]? = some (.cells (cs.setIfInBounds 0 (.int .i64 (n + 1))) 53 (0, 0)) := by rw [hw1]; exact heap_setCell_same w bk 0 cs _ _ HBK.out
  have hT1' : Turned (fun k => k = bk) w w1 := by rw [hw1]; exact turned_set w bk 0 _ rfl
  have hT1 : Turned (fun k => k = bk ∨ sv.ownBlock = some k) w w1 := hT1'.mono fun _ h => .inl h
  have hW1 : Below W.heap.size W w1 := by rw [hw1]; exact HW.out.setCell (by dsimp only; exact hb) _
  rw [← hw1]
  clear hw1 k0 f0
  have HB1 := Lib.hid hb1
  have HT1 := Lib.hid hT1
  have HW1 := Lib.hid hW1
  have HH1 := Lib.hid (HH.out.turned (S := fun k => k = bk) (w' := w1) hT1' (fun k hk e => HNE.out (by rw [hk, e])))
  have k0 := (cell_of_row w1 bk 0 _ _ _ hb1).trans (set_get HC.out.1 _)
  have k1 := (cell_of_row w1 bk 2 _ _ _ hb1).trans ((set_get_ne _ _ (by decide)).trans HC.out.2)
  have HBL := Lib.hid (Array.getElem?_eq_some_iff.1 hb1).1
  clear hb1 hT1 hT1' hW1
  have hao : ∀ o : Obj, (w1.alloc o).drew.cell? ⟨bk, 0, none⟩ = some (.int .i64 (n + 1)) ∧ (w1.alloc o).drew.cell? ⟨bk, 2, none⟩ = some sv := fun o => ⟨cell_new k0 o, cell_new k1 o⟩
  have ha0 : ∀ o : Obj, (w1.alloc o).cell? ⟨bk, 0, none⟩ = some (.int .i64 (n + 1)) := fun o => (hao o).1
  have ha1 : ∀ o : Obj, (w1.alloc o).cell? ⟨bk, 2, none⟩ = some sv := fun o => (hao o).2
  have HAO := Lib.hid hao
  clear hao
  go_region_law (first
    | (refine step_append_many (W := W) (A := some ⟨w1.heap.size, 0, none⟩) (m := 1) (c := 1) (by rfl) (.tmp 15) (.tmp 22) 41 (by rfl) elem_hInt rows.length (rows := rows) rfl (by simp [Act.eval]) ((HH1.out.alloc _).keep (Below.refl _ _).drew) ((below_alloc HW1.out _).drew) [[.slice A m c, .slice none 0 0, .int .i64 (n + 1)]] (by simp [Act.eval]) (fun h => by cases h) rfl (fun r hr => by simp at hr; rcases hr with rfl; rfl) (.inr ⟨_, 0, rfl, fun j u hu => by show (w1.alloc _).cell? _ = _; rw [cell_of_row _ _ _ _ _ _ (heap_alloc_new w1 _)]; simpa using hu⟩) (fun u hu => by simp at hu; rcases hu with rfl | rfl | rfl <;> rfl) (by unfold maxLen; omega) (by omega) ?_
       intro v' w3 hown3 hb3 hg3 hv3
       obtain ⟨A3, n3, c3, rfl⟩ := own_slice_ hown3
       have hr3 : w3.heap[bk]? = some (.cells (cs.setIfInBounds 0 (.int .i64 (n + 1))) 53 (0, 0)) := by
         refine (hg3.block bk (Nat.lt_of_lt_of_le HBL.out ((below_alloc (Below.refl w1.heap.size w1) _).drew).size) (fun e => HNE.out e.symm)).trans ?_
         show (w1.alloc _).heap[bk]? = _
         rw [heap_alloc_old _ _ HBL.out]; exact HB1.out
       have k3 : w3.cell? ⟨bk, 2, none⟩ = some sv := (cell_of_row w3 bk 2 _ _ _ hr3).trans ((set_get_ne _ _ (by decide)).trans HC.out.2)
       have f3 : w3.frozen? ⟨bk, 2, none⟩ = false := frozen_of_row w3 bk 2 _ _ hr3
       have HR3 := Lib.hid hr3
       have HO3 := Lib.hid hown3
       have HG3 := Lib.hid hg3
       clear hown3 hb3 hg3 hr3))
  all_goals refine bodyPost_end (v := .tuple #[]) (by kernel_rfl) rfl ?_
  all_goals exact kept_end _ HT1.out HR3.out HO3.out HG3.out hv3 HNE.out HBL.out
theorem elem_hText : Elem Tryz.prog 42 179 3 56 := Elem.mk' (z := .agg #[.slice none 0 0, .slice none 0 0, .int .i64 0]) Tryz.underlying42 (by kernel_rfl) rfl (by decide)
set_option maxHeartbeats 2000000 in
theorem keepText_calls (W w : World) (bk : Nat) (cs : Array Value) (n : Int) (hn : 0 ≤ n ∧ n ≤ 1000000000) (sv : Value) (rows : List (List Value)) (A : Option Addr) (m c : Nat)
    (hbk : w.heap[bk]? = some (.cells cs 53 (0, 0))) (h0 : cs[0]? = some (.int .i64 n)) (h1 : cs[3]? = some sv) (hb : W.heap.size ≤ bk) (hH : Own w W.heap.size 179 3 sv rows) (hne : sv.ownBlock ≠ some bk) (hl : rows.length ≤ 1000000) (hW : Below W.heap.size W w) :
    Calls Tryz.prog 71 #[.pointer (some ⟨bk, 0, none⟩), .slice A m c] w (Kept w W bk 3 53 179 cs n sv (.slice A m c) rows) := by
  have k0 : w.cell? ⟨bk, 0, none⟩ = some (.int .i64 n) := (cell_of_row w bk 0 _ _ _ hbk).trans h0
  have f0 : w.frozen? ⟨bk, 0, none⟩ = false := frozen_of_row w bk 0 _ _ hbk
  have hsum : IntKind.i64.wrap (n + 1) = n + 1 := IntWalk.i64_in _ (by omega)
  have HBK := Lib.hid hbk
  have HC := Lib.hid (And.intro h0 h1)
  have HH := Lib.hid hH
  have HW := Lib.hid hW
  have HNE := Lib.hid hne
  clear hbk h0 h1 hH hW hne
  go_enter Tryz.func71, Tryz.ntmps71
  go_upto_region 1 with fail
  obtain ⟨w1, hw1⟩ : ∃ x, x = w.setCell ⟨bk, 0, none⟩ (.int .i64 (n + 1)) := ⟨_, rfl⟩
  have hb1 : w1.heap[bk]? = some (.cells (cs.setIfInBounds 0 (.int .i64 (n + 1))) 53 (0, 0)) := by rw [hw1]; exact heap_setCell_same w bk 0 cs _ _ HBK.out
  have hT1' : Turned (fun k => k = bk) w w1 := by rw [hw1]; exact turned_set w bk 0 _ rfl
  have hT1 : Turned (fun k => k = bk ∨ sv.ownBlock = some k) w w1 := hT1'.mono fun _ h => .inl h
  have hW1 : Below W.heap.size W w1 := by rw [hw1]; exact HW.out.setCell (by dsimp only; exact hb) _
  rw [← hw1]
  clear hw1 k0 f0
  have HB1 := Lib.hid hb1
  have HT1 := Lib.hid hT1
  have HW1 := Lib.hid hW1
  have HH1 := Lib.hid (HH.out.turned (S := fun k => k = bk) (w' := w1) hT1' (fun k hk e => HNE.out (by rw [hk, e])))
  have k0 := (cell_of_row w1 bk 0 _ _ _ hb1).trans (set_get HC.out.1 _)
  have k1 := (cell_of_row w1 bk 3 _ _ _ hb1).trans ((set_get_ne _ _ (by decide)).trans HC.out.2)
  have HBL := Lib.hid (Array.getElem?_eq_some_iff.1 hb1).1
  clear hb1 hT1 hT1' hW1
  have hao : ∀ o : Obj, (w1.alloc o).drew.cell? ⟨bk, 0, none⟩ = some (.int .i64 (n + 1)) ∧ (w1.alloc o).drew.cell? ⟨bk, 3, none⟩ = some sv := fun o => ⟨cell_new k0 o, cell_new k1 o⟩
  have ha0 : ∀ o : Obj, (w1.alloc o).cell? ⟨bk, 0, none⟩ = some (.int .i64 (n + 1)) := fun o => (hao o).1
  have ha1 : ∀ o : Obj, (w1.alloc o).cell? ⟨bk, 3, none⟩ = some sv := fun o => (hao o).2
  have HAO := Lib.hid hao
  clear hao
  go_region_law (first
    | (refine step_append_many (W := W) (A := some ⟨w1.heap.size, 0, none⟩) (m := 1) (c := 1) (by rfl) (.tmp 15) (.tmp 22) 42 (by rfl) elem_hText rows.length (rows := rows) rfl (by simp [Act.eval]) ((HH1.out.alloc _).keep (Below.refl _ _).drew) ((below_alloc HW1.out _).drew) [[.slice A m c, .slice none 0 0, .int .i64 (n + 1)]] (by simp [Act.eval]) (fun h => by cases h) rfl (fun r hr => by simp at hr; rcases hr with rfl; rfl) (.inr ⟨_, 0, rfl, fun j u hu => by show (w1.alloc _).cell? _ = _; rw [cell_of_row _ _ _ _ _ _ (heap_alloc_new w1 _)]; simpa using hu⟩) (fun u hu => by simp at hu; rcases hu with rfl | rfl | rfl <;> rfl) (by unfold maxLen; omega) (by omega) ?_
       intro v' w3 hown3 hb3 hg3 hv3
       obtain ⟨A3, n3, c3, rfl⟩ := own_slice_ hown3
       have hr3 : w3.heap[bk]? = some (.cells (cs.setIfInBounds 0 (.int .i64 (n + 1))) 53 (0, 0)) := by
         refine (hg3.block bk (Nat.lt_of_lt_of_le HBL.out ((below_alloc (Below.refl w1.heap.size w1) _).drew).size) (fun e => HNE.out e.symm)).trans ?_
         show (w1.alloc _).heap[bk]? = _
         rw [heap_alloc_old _ _ HBL.out]; exact HB1.out
       have k3 : w3.cell? ⟨bk, 3, none⟩ = some sv := (cell_of_row w3 bk 3 _ _ _ hr3).trans ((set_get_ne _ _ (by decide)).trans HC.out.2)
       have f3 : w3.frozen? ⟨bk, 3, none⟩ = false := frozen_of_row w3 bk 3 _ _ hr3
       have HR3 := Lib.hid hr3
       have HO3 := Lib.hid hown3
       have HG3 := Lib.hid hg3
       clear hown3 hb3 hg3 hr3))
  all_goals refine bodyPost_end (v := .tuple #[]) (by kernel_rfl) rfl ?_
  all_goals exact kept_end _ HT1.out HR3.out HO3.out HG3.out hv3 HNE.out HBL.out
theorem elem_hStep : Elem Tryz.prog 51 177 3 56 := Elem.mk' (z := .agg #[.slice none 0 0, .slice none 0 0, .int .i64 0]) Tryz.underlying51 (by kernel_rfl) rfl (by decide)
set_option maxHeartbeats 2000000 in
theorem keepStep_calls (W w : World) (bk : Nat) (cs : Array Value) (n : Int) (hn : 0 ≤ n ∧ n ≤ 1000000000) (sv : Value) (rows : List (List Value)) (A : Option Addr) (m c : Nat)
    (hbk : w.heap[bk]? = some (.cells cs 53 (0, 0))) (h0 : cs[0]? = some (.int .i64 n)) (h1 : cs[12]? = some sv) (hb : W.heap.size ≤ bk) (hH : Own w W.heap.size 177 3 sv rows) (hne : sv.ownBlock ≠ some bk) (hl : rows.length ≤ 1000000) (hW : Below W.heap.size W w) :
    Calls Tryz.prog 70 #[.pointer (some ⟨bk, 0, none⟩), .slice A m c] w (Kept w W bk 12 53 177 cs n sv (.slice A m c) rows) := by
  have k0 : w.cell? ⟨bk, 0, none⟩ = some (.int .i64 n) := (cell_of_row w bk 0 _ _ _ hbk).trans h0
  have f0 : w.frozen? ⟨bk, 0, none⟩ = false := frozen_of_row w bk 0 _ _ hbk
  have hsum : IntKind.i64.wrap (n + 1) = n + 1 := IntWalk.i64_in _ (by omega)
  have HBK := Lib.hid hbk
  have HC := Lib.hid (And.intro h0 h1)
  have HH := Lib.hid hH
  have HW := Lib.hid hW
  have HNE := Lib.hid hne
  clear hbk h0 h1 hH hW hne
  go_enter Tryz.func70, Tryz.ntmps70
  go_upto_region 1 with fail
  obtain ⟨w1, hw1⟩ : ∃ x, x = w.setCell ⟨bk, 0, none⟩ (.int .i64 (n + 1)) := ⟨_, rfl⟩
  have hb1 : w1.heap[bk]? = some (.cells (cs.setIfInBounds 0 (.int .i64 (n + 1))) 53 (0, 0)) := by rw [hw1]; exact heap_setCell_same w bk 0 cs _ _ HBK.out
  have hT1' : Turned (fun k => k = bk) w w1 := by rw [hw1]; exact turned_set w bk 0 _ rfl
  have hT1 : Turned (fun k => k = bk ∨ sv.ownBlock = some k) w w1 := hT1'.mono fun _ h => .inl h
  have hW1 : Below W.heap.size W w1 := by rw [hw1]; exact HW.out.setCell (by dsimp only; exact hb) _
  rw [← hw1]
  clear hw1 k0 f0
  have HB1 := Lib.hid hb1
  have HT1 := Lib.hid hT1
  have HW1 := Lib.hid hW1
  have HH1 := Lib.hid (HH.out.turned (S := fun k => k = bk) (w' := w1) hT1' (fun k hk e => HNE.out (by rw [hk, e])))
  have k0 := (cell_of_row w1 bk 0 _ _ _ hb1).trans (set_get HC.out.1 _)
  have k1 := (cell_of_row w1 bk 12 _ _ _ hb1).trans ((set_get_ne _ _ (by decide)).trans HC.out.2)
  have HBL := Lib.hid (Array.getElem?_eq_some_iff.1 hb1).1
  clear hb1 hT1 hT1' hW1
  have hao : ∀ o : Obj, (w1.alloc o).drew.cell? ⟨bk, 0, none⟩ = some (.int .i64 (n + 1)) ∧ (w1.alloc o).drew.cell? ⟨bk, 12, none⟩ = some sv := fun o => ⟨cell_new k0 o, cell_new k1 o⟩
  have ha0 : ∀ o : Obj, (w1.alloc o).cell? ⟨bk, 0, none⟩ = some (.int .i64 (n + 1)) := fun o => (hao o).1
  have ha1 : ∀ o : Obj, (w1.alloc o).cell? ⟨bk, 12, none⟩ = some sv := fun o => (hao o).2
  have HAO := Lib.hid hao
  clear hao
  go_region_law (first
    | (refine step_append_many (W := W) (A := some ⟨w1.heap.size, 0, none⟩) (m := 1) (c := 1) (by rfl) (.tmp 15) (.tmp 22) 51 (by rfl) elem_hStep rows.length (rows := rows) rfl (by simp [Act.eval]) ((HH1.out.alloc _).keep (Below.refl _ _).drew) ((below_alloc HW1.out _).drew) [[.slice A m c, .slice none 0 0, .int .i64 (n + 1)]] (by simp [Act.eval]) (fun h => by cases h) rfl (fun r hr => by simp at hr; rcases hr with rfl; rfl) (.inr ⟨_, 0, rfl, fun j u hu => by show (w1.alloc _).cell? _ = _; rw [cell_of_row _ _ _ _ _ _ (heap_alloc_new w1 _)]; simpa using hu⟩) (fun u hu => by simp at hu; rcases hu with rfl | rfl | rfl <;> rfl) (by unfold maxLen; omega) (by omega) ?_
       intro v' w3 hown3 hb3 hg3 hv3
       obtain ⟨A3, n3, c3, rfl⟩ := own_slice_ hown3
       have hr3 : w3.heap[bk]? = some (.cells (cs.setIfInBounds 0 (.int .i64 (n + 1))) 53 (0, 0)) := by
         refine (hg3.block bk (Nat.lt_of_lt_of_le HBL.out ((below_alloc (Below.refl w1.heap.size w1) _).drew).size) (fun e => HNE.out e.symm)).trans ?_
         show (w1.alloc _).heap[bk]? = _
         rw [heap_alloc_old _ _ HBL.out]; exact HB1.out
       have k3 : w3.cell? ⟨bk, 12, none⟩ = some sv := (cell_of_row w3 bk 12 _ _ _ hr3).trans ((set_get_ne _ _ (by decide)).trans HC.out.2)
       have f3 : w3.frozen? ⟨bk, 12, none⟩ = false := frozen_of_row w3 bk 12 _ _ hr3
       have HR3 := Lib.hid hr3
       have HO3 := Lib.hid hown3
       have HG3 := Lib.hid hg3
       clear hown3 hb3 hg3 hr3))
  all_goals refine bodyPost_end (v := .tuple #[]) (by kernel_rfl) rfl ?_
  all_goals exact kept_end _ HT1.out HR3.out HO3.out HG3.out hv3 HNE.out HBL.out
end Go.Proofs.YtbfcfjgcmideeaaGreatDoor
namespace Go.Proofs.YtbfcfjgcmideeaaGreatDoor
open Go.RowKit
attribute [local go_sem] Later.cell_eq
def mkB (n : Int) : List Value := [.int .u8 (1 + n % 250)]
def wordS (n : Int) : ByteArray := (⟨#[35]⟩ ++ ⟨(Lib.decDigits n.toNat).toArray⟩ : ByteArray)
def mkE (n : Int) : List Value := [.string (wordS n), .int .i64 0]
def mkN (n : Int) : List Value := [.int .u8 0, .int .i64 (-1000 - n), .int .i64 0, .int .i64 0, .int .i64 0, .int .i64 0, .slice none 0 0, .string ⟨#[]⟩, .slice none 0 0, .int .i64 0]
def mkI (n : Int) : List Value := [.int .i64 (-1000 - n)]
def mkT (n : Int) : List Value := [.string (wordS n)]
def mkS (n : Int) : List Value := [.string (wordS n), .int .i64 0, .int .i64 0, .bool false]
/-- The library's table of powers of ten lies in the world; who does not write it. -/
def TabW (w : World) : Prop := Lib.TabIs Tryz.prog w "internal/strconv.uint64pow10" .u64 Lib.pow10Tab
def TabFar (S : Nat → Prop) : Prop := ∀ g, Tryz.prog.globalNamed "internal/strconv.uint64pow10" = some g → ¬ S g
theorem TabW.turned {S : Nat → Prop} {w w' : World} (h : TabW w) (ht : Turned S w w') (hS : TabFar S) : TabW w' := by
  unfold TabW Lib.TabIs World.var? at h ⊢
  cases hg : Tryz.prog.globalNamed "internal/strconv.uint64pow10" with
  | none => rw [hg] at h; cases h
  | some g =>
    rw [hg, Option.bind_some] at h
    rw [Option.bind_some]
    have hl : g < w.heap.size := by
      cases hw : w.heap[g]? with
      | none => rw [hw] at h; cases h
      | some o => exact (Array.getElem?_eq_some_iff.1 hw).1
    rw [ht.block g hl (hS g hg)]
    exact h
theorem TabW.keep {w w' : World} (h : TabW w) (hb : Below w.heap.size w w') : TabW w' := h.turned (turned_below (S := fun _ => False) hb) fun _ _ h => h
/-- The table's block is an old one. -/
theorem TabW.low {w : World} (h : TabW w) : ∀ g, Tryz.prog.globalNamed "internal/strconv.uint64pow10" = some g → g < w.heap.size := by
  intro g hg
  unfold TabW Lib.TabIs World.var? at h
  rw [hg, Option.bind_some] at h
  cases hw : w.heap[g]? with
  | none => rw [hw] at h; cases h
  | some o => exact (Array.getElem?_eq_some_iff.1 hw).1
/-- A number that can be told as a text. -/
def NumOK (w : World) (n : Int) : Prop := 0 ≤ n ∧ n ≤ 1000000 ∧ (n < 100 ∨ TabW w)
theorem NumOK.turned {S : Nat → Prop} {w w' : World} {n : Int} (h : NumOK w n) (ht : Turned S w w') (hS : TabFar S) : NumOK w' n := ⟨h.1, h.2.1, h.2.2.imp id fun a => a.turned ht hS⟩
theorem NumOK.keep {w w' : World} {n : Int} (h : NumOK w n) (hb : Below w.heap.size w w') : NumOK w' n := ⟨h.1, h.2.1, h.2.2.imp id fun a => a.keep hb⟩
theorem dec_short (n : Nat) (hn : n ≤ 1000000) : (Lib.decDigits n).length ≤ 100 := by
  have := Lib.itoa_length_le (n : Int) (by omega) (by omega)
  rw [Lib.itoa_nonneg] at this
  omega
theorem itoa_any (n : Nat) (hn : n ≤ 1000000) (w : World) (h : n < 100 ∨ TabW w) :
    Calls Tryz.prog 259 #[.int .i64 (n : Int)] w fun e w' => e = .returned (.string ⟨(Lib.decDigits n).toArray⟩) ∧ Below w.heap.size w w' := by
  rcases h with h | h
  · exact (Tryz.strconv_Itoa_small n h w).mono fun e w' ⟨h1, h2⟩ => ⟨h1, by rw [h2]; exact Below.refl _ _⟩
  · refine (Tryz.strconv_Itoa (n : Int) (by omega) (by omega) w h).mono ?_
    rintro e w' ⟨h1, k, os, rfl⟩
    rw [Lib.itoa_nonneg] at h1
    exact ⟨h1, Lib.below_grow _ _ (Nat.le_refl _) _ _⟩
theorem markByte_calls (n : Int) (hn : 0 ≤ n ∧ n ≤ 1000000) (w : World) :
    Calls Tryz.prog 152 #[.int .i64 n] w fun e w' => e = .returned (.int .u8 (1 + n % 250)) ∧ Below w.heap.size w w' := by
  go_enter Tryz.func152, Tryz.ntmps152
  go_wp2
  go_ret
  exact ⟨rfl, (by repeat (first | exact Below.refl _ _ | assumption | refine Below.drew ?_ | refine below_drewN ?_ _ | refine below_alloc ?_ _ | refine below_set ?_ (by simp) _ | refine below_step ?_ (by assumption)))⟩
theorem word_calls (n : Int) (w : World) (hn : NumOK w n) :
    Calls Tryz.prog 221 #[.int .i64 n] w fun e w' => e = .returned (.string (wordS n)) ∧ Below w.heap.size w w' := by
  obtain ⟨h0, h1, h2⟩ := hn
  obtain ⟨m, rfl⟩ : ∃ m : Nat, n = m := ⟨n.toNat, by omega⟩
  have h3 : m < 100 ∨ TabW w := h2.imp (fun h => by omega) id
  have H3 := Lib.hid h3
  clear h2 h3
  go_enter Tryz.func221, Tryz.ntmps221
  have hd := dec_short m (by omega)
  have hs : ¬ 9223372036854775807 < 1 + (Lib.decDigits m).length := by omega
  go_wp2_with (go_at_call 259; refine (itoa_any m (by omega) _ H3.out).mono ?_; rintro e w' ⟨rfl, hb⟩)
  go_ret
  exact ⟨rfl, hb⟩
theorem markInt_calls (n : Int) (hn : 0 ≤ n ∧ n ≤ 1000000) (w : World) :
    Calls Tryz.prog 153 #[.int .i64 n] w fun e w' => e = .returned (.int .i64 (-1000 - n)) ∧ Below w.heap.size w w' := by
  have hw : IntKind.i64.wrap (-1000 - n) = -1000 - n := IntWalk.i64_in _ (by omega)
  go_enter Tryz.func153, Tryz.ntmps153
  go_wp2
  go_ret
  exact ⟨rfl, (by repeat (first | exact Below.refl _ _ | assumption | refine Below.drew ?_ | refine below_drewN ?_ _ | refine below_alloc ?_ _ | refine below_set ?_ (by simp) _ | refine below_step ?_ (by assumption)))⟩
theorem markText_calls (n : Int) (w : World) (hn : NumOK w n) :
    Calls Tryz.prog 154 #[.int .i64 n] w fun e w' => e = .returned (.string (wordS n)) ∧ Below w.heap.size w w' := by
  go_enter Tryz.func154, Tryz.ntmps154
  go_wp2_with (go_at_call 221; refine (word_calls n _ hn).mono ?_; rintro e w' ⟨rfl, hb⟩)
  go_ret
  exact ⟨rfl, hb⟩
theorem markEntry_calls (n : Int) (w : World) (hn : NumOK w n) :
    Calls Tryz.prog 160 #[.int .i64 n] w fun e w' => e = .returned (.agg (mkE n).toArray) ∧ Below w.heap.size w w' := by
  have HN := Lib.hid hn
  clear hn
  go_enter Tryz.func160, Tryz.ntmps160
  go_wp2_with (first
    | (go_at_call 221; refine (word_calls n _ (HN.out.keep (below_alloc (Below.refl _ _) _))).mono ?_; rintro e w' ⟨rfl, hb1⟩
       have h8 : w'.heap[w.heap.size]? = some (.cells #[.string ⟨#[]⟩, .int .i64 0] 162 (0, 0)) := (hb1.block _ (by simp)).trans (heap_alloc_new w _))
    | (refine wpList_store_rowTo rfl 162 _ _ rfl rfl w.heap.size (mkE n).toArray rfl rfl 162 _ h8 (by kernel_rfl) rfl (by simp [mkE, Value.oneCell']) ?_))
  try rw [Exit.noGoto_ret]
  have h9 := setRow_heap _ w.heap.size _ (mkE n).toArray _ _ h8
  have hL := run_loadVar_row (P := Tryz.prog) _ _ _ 162 _ _ _ h9 Tryz.underlying162 rfl (by kernel_rfl)
  refine bodyPost_ret (v := .agg (mkE n).toArray) (results_cell rfl rfl hL) rfl ?_
  exact ⟨rfl, below_setRow (below_step (below_alloc (Below.refl _ _) _) hb1) (Nat.le_refl _) _⟩
theorem markStep_calls (n : Int) (w : World) (hn : NumOK w n) :
    Calls Tryz.prog 163 #[.int .i64 n] w fun e w' => e = .returned (.agg (mkS n).toArray) ∧ Below w.heap.size w w' := by
  have HN := Lib.hid hn
  clear hn
  go_enter Tryz.func163, Tryz.ntmps163
  go_wp2_with (first
    | (go_at_call 221; refine (word_calls n _ (HN.out.keep (below_alloc (Below.refl _ _) _))).mono ?_; rintro e w' ⟨rfl, hb1⟩
       have h8 : w'.heap[w.heap.size]? = some (.cells #[.string ⟨#[]⟩, .int .i64 0, .int .i64 0, .bool false] 111 (0, 0)) := (hb1.block _ (by simp)).trans (heap_alloc_new w _))
    | (refine wpList_store_rowTo rfl 111 _ _ rfl rfl w.heap.size (mkS n).toArray rfl rfl 111 _ h8 (by kernel_rfl) rfl (by simp [mkS, Value.oneCell']) ?_))
  try rw [Exit.noGoto_ret]
  have h9 := setRow_heap _ w.heap.size _ (mkS n).toArray _ _ h8
  have hL := run_loadVar_row (P := Tryz.prog) _ _ _ 111 _ _ _ h9 Tryz.underlying111 rfl (by kernel_rfl)
  refine bodyPost_ret (v := .agg (mkS n).toArray) (results_cell rfl rfl hL) rfl ?_
  exact ⟨rfl, below_setRow (below_step (below_alloc (Below.refl _ _) _) hb1) (Nat.le_refl _) _⟩
theorem markNode_calls (n : Int) (hn : 0 ≤ n ∧ n ≤ 1000000) (w : World) :
    Calls Tryz.prog 161 #[.int .i64 n] w fun e w' => e = .returned (.agg (mkN n).toArray) ∧ Below w.heap.size w w' := by
  have hw : IntKind.i64.wrap (-1000 - n) = -1000 - n := IntWalk.i64_in _ (by omega)
  go_enter Tryz.func161, Tryz.ntmps161
  have h8 := heap_alloc_new w (.cells #[.int .u8 0, .int .i64 0, .int .i64 0, .int .i64 0, .int .i64 0, .int .i64 0, .slice none 0 0, .string ⟨#[]⟩, .slice none 0 0, .int .i64 0] 80)
  go_wp2_with (refine wpList_store_rowTo rfl 80 _ _ rfl rfl w.heap.size (mkN n).toArray rfl rfl 80 _ h8 (by kernel_rfl) rfl (by simp [mkN, Value.oneCell']) ?_)
  try rw [Exit.noGoto_ret]
  have h9 := setRow_heap _ w.heap.size _ (mkN n).toArray _ _ h8
  have hL := run_loadVar_row (P := Tryz.prog) _ _ _ 80 _ _ _ h9 Tryz.underlying80 rfl (by kernel_rfl)
  refine bodyPost_ret (v := .agg (mkN n).toArray) (results_cell rfl rfl hL) rfl ?_
  exact ⟨rfl, below_setRow (below_alloc (Below.refl _ _) _) (Nat.le_refl _) _⟩
theorem isByte_calls (n : Int) (hn : 0 ≤ n ∧ n ≤ 1000000) (w : World) :
    Calls Tryz.prog 164 #[.int .u8 (1 + n % 250), .int .i64 n] w fun e w' => e = .returned (.bool true) ∧ Below w.heap.size w w' := by
  go_enter Tryz.func164, Tryz.ntmps164
  go_wp2
  go_ret
  exact ⟨rfl, (by repeat (first | exact Below.refl _ _ | assumption | refine Below.drew ?_ | refine below_drewN ?_ _ | refine below_alloc ?_ _ | refine below_set ?_ (by simp) _ | refine below_step ?_ (by assumption)))⟩
theorem isInt_calls (n : Int) (hn : 0 ≤ n ∧ n ≤ 1000000) (w : World) :
    Calls Tryz.prog 165 #[.int .i64 (-1000 - n), .int .i64 n] w fun e w' => e = .returned (.bool true) ∧ Below w.heap.size w w' := by
  have hw : IntKind.i64.wrap (-1000 - n) = -1000 - n := IntWalk.i64_in _ (by omega)
  go_enter Tryz.func165, Tryz.ntmps165
  go_wp2
  go_ret
  exact ⟨rfl, (by repeat (first | exact Below.refl _ _ | assumption | refine Below.drew ?_ | refine below_drewN ?_ _ | refine below_alloc ?_ _ | refine below_set ?_ (by simp) _ | refine below_step ?_ (by assumption)))⟩
theorem isText_calls (n : Int) (w : World) (hn : NumOK w n) :
    Calls Tryz.prog 166 #[.string (wordS n), .int .i64 n] w fun e w' => e = .returned (.bool true) ∧ Below w.heap.size w w' := by
  have HN := Lib.hid hn
  clear hn
  go_enter Tryz.func166, Tryz.ntmps166
  go_wp2_with (go_at_call 221; refine (word_calls n _ HN.out).mono ?_; rintro e w' ⟨rfl, hb⟩)
  go_ret
  exact ⟨rfl, hb⟩
theorem isEntry_calls (n : Int) (w : World) (hn : NumOK w n) :
    Calls Tryz.prog 172 #[.agg #[.string (wordS n), .int .i64 0], .int .i64 n] w fun e w' => e = .returned (.bool true) ∧ Below w.heap.size w w' := by
  have HN := Lib.hid hn
  clear hn
  go_enter Tryz.func172, Tryz.ntmps172
  go_upto_region 1 with fail
  obtain ⟨wb, hwb⟩ : ∃ x, x = w.alloc (.cells #[.string (wordS n), .int .i64 0] 162) := ⟨_, rfl⟩
  have c0 : wb.cell? ⟨w.heap.size, 0, none⟩ = some (.string (wordS n)) := by rw [hwb, cell_of_row _ _ _ _ _ _ (heap_alloc_new w _)]; rfl
  have hl : w.heap.size < wb.heap.size := by rw [hwb]; simp
  have hB : Below w.heap.size w wb := by rw [hwb]; exact below_alloc (Below.refl _ _) _
  have HNB := Lib.hid (HN.out.keep hB)
  rw [← hwb]
  clear hwb
  refine wp_region_later (by kernel_rfl) (by kernel_rfl) ?_
  repeat (go_big_quiet_step ((exact Calls.later (word_calls n _ (HNB.out.keep (Later.h _))))))
  refine wpQuiet_nil ?_
  intro wL hbL
  go_wp2
  go_ret
  exact ⟨rfl, below_step hB hbL⟩
theorem isStep_calls (n : Int) (w : World) (hn : NumOK w n) :
    Calls Tryz.prog 175 #[.agg #[.string (wordS n), .int .i64 0, .int .i64 0, .bool false], .int .i64 n] w fun e w' => e = .returned (.bool true) ∧ Below w.heap.size w w' := by
  have HN := Lib.hid hn
  clear hn
  go_enter Tryz.func175, Tryz.ntmps175
  go_upto_region 1 with fail
  obtain ⟨wb, hwb⟩ : ∃ x, x = w.alloc (.cells #[.string (wordS n), .int .i64 0, .int .i64 0, .bool false] 111) := ⟨_, rfl⟩
  have c0 : wb.cell? ⟨w.heap.size, 0, none⟩ = some (.string (wordS n)) := by rw [hwb, cell_of_row _ _ _ _ _ _ (heap_alloc_new w _)]; rfl
  have hl : w.heap.size < wb.heap.size := by rw [hwb]; simp
  have hB : Below w.heap.size w wb := by rw [hwb]; exact below_alloc (Below.refl _ _) _
  have HNB := Lib.hid (HN.out.keep hB)
  rw [← hwb]
  clear hwb
  refine wp_region_later (by kernel_rfl) (by kernel_rfl) ?_
  repeat (go_big_quiet_step ((exact Calls.later (word_calls n _ (HNB.out.keep (Later.h _))))))
  refine wpQuiet_nil ?_
  intro wL hbL
  go_wp2
  go_ret
  exact ⟨rfl, below_step hB hbL⟩
theorem isNode_calls (n : Int) (hn : 0 ≤ n ∧ n ≤ 1000000) (w : World) :
    Calls Tryz.prog 173 #[.agg #[.int .u8 0, .int .i64 (-1000 - n), .int .i64 0, .int .i64 0, .int .i64 0, .int .i64 0, .slice none 0 0, .string ⟨#[]⟩, .slice none 0 0, .int .i64 0], .int .i64 n] w fun e w' => e = .returned (.bool true) ∧ Below w.heap.size w w' := by
  have hw : IntKind.i64.wrap (-1000 - n) = -1000 - n := IntWalk.i64_in _ (by omega)
  go_enter Tryz.func173, Tryz.ntmps173
  go_wp2
  go_ret
  exact ⟨rfl, (by repeat (first | exact Below.refl _ _ | assumption | refine Below.drew ?_ | refine below_drewN ?_ _ | refine below_alloc ?_ _ | refine below_set ?_ (by simp) _ | refine below_step ?_ (by assumption)))⟩
end Go.Proofs.YtbfcfjgcmideeaaGreatDoor
namespace Go.Proofs.YtbfcfjgcmideeaaGreatDoor
open Go.RowKit
theorem fillInt_none (w : World) (bk : Nat) (cs : Array Value) (hbk : w.heap[bk]? = some (.cells cs 53 (0, 0))) (hj : cs[2]? = some (.slice none 0 0)) :
    Calls Tryz.prog 73 #[.pointer (some ⟨bk, 0, none⟩)] w fun e w' => e = .returned (.tuple #[]) ∧ w' = w := by
  have k1 := (cell_of_row w bk 2 _ _ _ hbk).trans hj
  clear hbk hj
  go_enter Tryz.func73, Tryz.ntmps73
  go_wp2
  go_loopg [2] 0 (fun g s2 wr => g = 0 ∧ s2 = .int .i64 0 ∧ wr = w)
  case atStart => exact ⟨rfl, rfl, rfl⟩
  case round =>
    obtain ⟨rfl, rfl, rfl⟩ := hrel
    go_wp2
    refine bodyPost_end (v := .tuple #[]) (by kernel_rfl) rfl ?_
    exact ⟨rfl, rfl⟩
theorem growInt_none (w : World) (bk : Nat) (cs : Array Value) (hbk : w.heap[bk]? = some (.cells cs 53 (0, 0))) (hj : cs[2]? = some (.slice none 0 0)) :
    Calls Tryz.prog 85 #[.pointer (some ⟨bk, 0, none⟩)] w fun e w' => e = .returned (.tuple #[]) ∧ w' = w := by
  have k1 := (cell_of_row w bk 2 _ _ _ hbk).trans hj
  clear hbk hj
  go_enter Tryz.func85, Tryz.ntmps85
  go_wp2
  go_loopg [2] 0 (fun g s2 wr => g = 0 ∧ s2 = .int .i64 0 ∧ wr = w)
  case atStart => exact ⟨rfl, rfl, rfl⟩
  case round =>
    obtain ⟨rfl, rfl, rfl⟩ := hrel
    go_wp2
    refine bodyPost_end (v := .tuple #[]) (by kernel_rfl) rfl ?_
    exact ⟨rfl, rfl⟩
theorem lookInt_none (w : World) (bk : Nat) (cs : Array Value) (hbk : w.heap[bk]? = some (.cells cs 53 (0, 0))) (hj : cs[2]? = some (.slice none 0 0)) :
    Calls Tryz.prog 97 #[.pointer (some ⟨bk, 0, none⟩)] w fun e w' => e = .returned (.bool true) ∧ w' = w := by
  have k1 := (cell_of_row w bk 2 _ _ _ hbk).trans hj
  clear hbk hj
  go_enter Tryz.func97, Tryz.ntmps97
  go_wp2
  go_loopg [3] 0 (fun g s3 wr => g = 0 ∧ s3 = .int .i64 0 ∧ wr = w)
  case atStart => exact ⟨rfl, rfl, rfl⟩
  case round =>
    obtain ⟨rfl, rfl, rfl⟩ := hrel
    go_wp2
    go_ret
    exact ⟨rfl, rfl⟩
theorem fillText_none (w : World) (bk : Nat) (cs : Array Value) (hbk : w.heap[bk]? = some (.cells cs 53 (0, 0))) (hj : cs[3]? = some (.slice none 0 0)) :
    Calls Tryz.prog 74 #[.pointer (some ⟨bk, 0, none⟩)] w fun e w' => e = .returned (.tuple #[]) ∧ w' = w := by
  have k1 := (cell_of_row w bk 3 _ _ _ hbk).trans hj
  clear hbk hj
  go_enter Tryz.func74, Tryz.ntmps74
  go_wp2
  go_loopg [2] 0 (fun g s2 wr => g = 0 ∧ s2 = .int .i64 0 ∧ wr = w)
  case atStart => exact ⟨rfl, rfl, rfl⟩
  case round =>
    obtain ⟨rfl, rfl, rfl⟩ := hrel
    go_wp2
    refine bodyPost_end (v := .tuple #[]) (by kernel_rfl) rfl ?_
    exact ⟨rfl, rfl⟩
theorem growText_none (w : World) (bk : Nat) (cs : Array Value) (hbk : w.heap[bk]? = some (.cells cs 53 (0, 0))) (hj : cs[3]? = some (.slice none 0 0)) :
    Calls Tryz.prog 86 #[.pointer (some ⟨bk, 0, none⟩)] w fun e w' => e = .returned (.tuple #[]) ∧ w' = w := by
  have k1 := (cell_of_row w bk 3 _ _ _ hbk).trans hj
  clear hbk hj
  go_enter Tryz.func86, Tryz.ntmps86
  go_wp2
  go_loopg [2] 0 (fun g s2 wr => g = 0 ∧ s2 = .int .i64 0 ∧ wr = w)
  case atStart => exact ⟨rfl, rfl, rfl⟩
  case round =>
    obtain ⟨rfl, rfl, rfl⟩ := hrel
    go_wp2
    refine bodyPost_end (v := .tuple #[]) (by kernel_rfl) rfl ?_
    exact ⟨rfl, rfl⟩
theorem lookText_none (w : World) (bk : Nat) (cs : Array Value) (hbk : w.heap[bk]? = some (.cells cs 53 (0, 0))) (hj : cs[3]? = some (.slice none 0 0)) :
    Calls Tryz.prog 98 #[.pointer (some ⟨bk, 0, none⟩)] w fun e w' => e = .returned (.bool true) ∧ w' = w := by
  have k1 := (cell_of_row w bk 3 _ _ _ hbk).trans hj
  clear hbk hj
  go_enter Tryz.func98, Tryz.ntmps98
  go_wp2
  go_loopg [3] 0 (fun g s3 wr => g = 0 ∧ s3 = .int .i64 0 ∧ wr = w)
  case atStart => exact ⟨rfl, rfl, rfl⟩
  case round =>
    obtain ⟨rfl, rfl, rfl⟩ := hrel
    go_wp2
    go_ret
    exact ⟨rfl, rfl⟩
theorem fillBlob_none (w : World) (bk : Nat) (cs : Array Value) (hbk : w.heap[bk]? = some (.cells cs 53 (0, 0))) (hj : cs[4]? = some (.slice none 0 0)) :
    Calls Tryz.prog 75 #[.pointer (some ⟨bk, 0, none⟩)] w fun e w' => e = .returned (.tuple #[]) ∧ w' = w := by
  have k1 := (cell_of_row w bk 4 _ _ _ hbk).trans hj
  clear hbk hj
  go_enter Tryz.func75, Tryz.ntmps75
  go_wp2
  go_loopg [2] 0 (fun g s2 wr => g = 0 ∧ s2 = .int .i64 0 ∧ wr = w)
  case atStart => exact ⟨rfl, rfl, rfl⟩
  case round =>
    obtain ⟨rfl, rfl, rfl⟩ := hrel
    go_wp2
    refine bodyPost_end (v := .tuple #[]) (by kernel_rfl) rfl ?_
    exact ⟨rfl, rfl⟩
theorem growBlob_none (w : World) (bk : Nat) (cs : Array Value) (hbk : w.heap[bk]? = some (.cells cs 53 (0, 0))) (hj : cs[4]? = some (.slice none 0 0)) :
    Calls Tryz.prog 87 #[.pointer (some ⟨bk, 0, none⟩)] w fun e w' => e = .returned (.tuple #[]) ∧ w' = w := by
  have k1 := (cell_of_row w bk 4 _ _ _ hbk).trans hj
  clear hbk hj
  go_enter Tryz.func87, Tryz.ntmps87
  go_wp2
  go_loopg [2] 0 (fun g s2 wr => g = 0 ∧ s2 = .int .i64 0 ∧ wr = w)
  case atStart => exact ⟨rfl, rfl, rfl⟩
  case round =>
    obtain ⟨rfl, rfl, rfl⟩ := hrel
    go_wp2
    refine bodyPost_end (v := .tuple #[]) (by kernel_rfl) rfl ?_
    exact ⟨rfl, rfl⟩
theorem lookBlob_none (w : World) (bk : Nat) (cs : Array Value) (hbk : w.heap[bk]? = some (.cells cs 53 (0, 0))) (hj : cs[4]? = some (.slice none 0 0)) :
    Calls Tryz.prog 99 #[.pointer (some ⟨bk, 0, none⟩)] w fun e w' => e = .returned (.bool true) ∧ w' = w := by
  have k1 := (cell_of_row w bk 4 _ _ _ hbk).trans hj
  clear hbk hj
  go_enter Tryz.func99, Tryz.ntmps99
  go_wp2
  go_loopg [3] 0 (fun g s3 wr => g = 0 ∧ s3 = .int .i64 0 ∧ wr = w)
  case atStart => exact ⟨rfl, rfl, rfl⟩
  case round =>
    obtain ⟨rfl, rfl, rfl⟩ := hrel
    go_wp2
    go_ret
    exact ⟨rfl, rfl⟩
theorem fillRow_none (w : World) (bk : Nat) (cs : Array Value) (hbk : w.heap[bk]? = some (.cells cs 53 (0, 0))) (hj : cs[5]? = some (.slice none 0 0)) :
    Calls Tryz.prog 76 #[.pointer (some ⟨bk, 0, none⟩)] w fun e w' => e = .returned (.tuple #[]) ∧ w' = w := by
  have k1 := (cell_of_row w bk 5 _ _ _ hbk).trans hj
  clear hbk hj
  go_enter Tryz.func76, Tryz.ntmps76
  go_wp2
  go_loopg [2] 0 (fun g s2 wr => g = 0 ∧ s2 = .int .i64 0 ∧ wr = w)
  case atStart => exact ⟨rfl, rfl, rfl⟩
  case round =>
    obtain ⟨rfl, rfl, rfl⟩ := hrel
    go_wp2
    refine bodyPost_end (v := .tuple #[]) (by kernel_rfl) rfl ?_
    exact ⟨rfl, rfl⟩
theorem growRow_none (w : World) (bk : Nat) (cs : Array Value) (hbk : w.heap[bk]? = some (.cells cs 53 (0, 0))) (hj : cs[5]? = some (.slice none 0 0)) :
    Calls Tryz.prog 88 #[.pointer (some ⟨bk, 0, none⟩)] w fun e w' => e = .returned (.tuple #[]) ∧ w' = w := by
  have k1 := (cell_of_row w bk 5 _ _ _ hbk).trans hj
  clear hbk hj
  go_enter Tryz.func88, Tryz.ntmps88
  go_wp2
  go_loopg [2] 0 (fun g s2 wr => g = 0 ∧ s2 = .int .i64 0 ∧ wr = w)
  case atStart => exact ⟨rfl, rfl, rfl⟩
  case round =>
    obtain ⟨rfl, rfl, rfl⟩ := hrel
    go_wp2
    refine bodyPost_end (v := .tuple #[]) (by kernel_rfl) rfl ?_
    exact ⟨rfl, rfl⟩
theorem lookRow_none (w : World) (bk : Nat) (cs : Array Value) (hbk : w.heap[bk]? = some (.cells cs 53 (0, 0))) (hj : cs[5]? = some (.slice none 0 0)) :
    Calls Tryz.prog 100 #[.pointer (some ⟨bk, 0, none⟩)] w fun e w' => e = .returned (.bool true) ∧ w' = w := by
  have k1 := (cell_of_row w bk 5 _ _ _ hbk).trans hj
  clear hbk hj
  go_enter Tryz.func100, Tryz.ntmps100
  go_wp2
  go_loopg [3] 0 (fun g s3 wr => g = 0 ∧ s3 = .int .i64 0 ∧ wr = w)
  case atStart => exact ⟨rfl, rfl, rfl⟩
  case round =>
    obtain ⟨rfl, rfl, rfl⟩ := hrel
    go_wp2
    go_ret
    exact ⟨rfl, rfl⟩
theorem fillFlag_none (w : World) (bk : Nat) (cs : Array Value) (hbk : w.heap[bk]? = some (.cells cs 53 (0, 0))) (hj : cs[6]? = some (.slice none 0 0)) :
    Calls Tryz.prog 77 #[.pointer (some ⟨bk, 0, none⟩)] w fun e w' => e = .returned (.tuple #[]) ∧ w' = w := by
  have k1 := (cell_of_row w bk 6 _ _ _ hbk).trans hj
  clear hbk hj
  go_enter Tryz.func77, Tryz.ntmps77
  go_wp2
  go_loopg [2] 0 (fun g s2 wr => g = 0 ∧ s2 = .int .i64 0 ∧ wr = w)
  case atStart => exact ⟨rfl, rfl, rfl⟩
  case round =>
    obtain ⟨rfl, rfl, rfl⟩ := hrel
    go_wp2
    refine bodyPost_end (v := .tuple #[]) (by kernel_rfl) rfl ?_
    exact ⟨rfl, rfl⟩
theorem growFlag_none (w : World) (bk : Nat) (cs : Array Value) (hbk : w.heap[bk]? = some (.cells cs 53 (0, 0))) (hj : cs[6]? = some (.slice none 0 0)) :
    Calls Tryz.prog 89 #[.pointer (some ⟨bk, 0, none⟩)] w fun e w' => e = .returned (.tuple #[]) ∧ w' = w := by
  have k1 := (cell_of_row w bk 6 _ _ _ hbk).trans hj
  clear hbk hj
  go_enter Tryz.func89, Tryz.ntmps89
  go_wp2
  go_loopg [2] 0 (fun g s2 wr => g = 0 ∧ s2 = .int .i64 0 ∧ wr = w)
  case atStart => exact ⟨rfl, rfl, rfl⟩
  case round =>
    obtain ⟨rfl, rfl, rfl⟩ := hrel
    go_wp2
    refine bodyPost_end (v := .tuple #[]) (by kernel_rfl) rfl ?_
    exact ⟨rfl, rfl⟩
theorem lookFlag_none (w : World) (bk : Nat) (cs : Array Value) (hbk : w.heap[bk]? = some (.cells cs 53 (0, 0))) (hj : cs[6]? = some (.slice none 0 0)) :
    Calls Tryz.prog 101 #[.pointer (some ⟨bk, 0, none⟩)] w fun e w' => e = .returned (.bool true) ∧ w' = w := by
  have k1 := (cell_of_row w bk 6 _ _ _ hbk).trans hj
  clear hbk hj
  go_enter Tryz.func101, Tryz.ntmps101
  go_wp2
  go_loopg [3] 0 (fun g s3 wr => g = 0 ∧ s3 = .int .i64 0 ∧ wr = w)
  case atStart => exact ⟨rfl, rfl, rfl⟩
  case round =>
    obtain ⟨rfl, rfl, rfl⟩ := hrel
    go_wp2
    go_ret
    exact ⟨rfl, rfl⟩
theorem fillRange_none (w : World) (bk : Nat) (cs : Array Value) (hbk : w.heap[bk]? = some (.cells cs 53 (0, 0))) (hj : cs[7]? = some (.slice none 0 0)) :
    Calls Tryz.prog 78 #[.pointer (some ⟨bk, 0, none⟩)] w fun e w' => e = .returned (.tuple #[]) ∧ w' = w := by
  have k1 := (cell_of_row w bk 7 _ _ _ hbk).trans hj
  clear hbk hj
  go_enter Tryz.func78, Tryz.ntmps78
  go_wp2
  go_loopg [2] 0 (fun g s2 wr => g = 0 ∧ s2 = .int .i64 0 ∧ wr = w)
  case atStart => exact ⟨rfl, rfl, rfl⟩
  case round =>
    obtain ⟨rfl, rfl, rfl⟩ := hrel
    go_wp2
    refine bodyPost_end (v := .tuple #[]) (by kernel_rfl) rfl ?_
    exact ⟨rfl, rfl⟩
theorem growRange_none (w : World) (bk : Nat) (cs : Array Value) (hbk : w.heap[bk]? = some (.cells cs 53 (0, 0))) (hj : cs[7]? = some (.slice none 0 0)) :
    Calls Tryz.prog 90 #[.pointer (some ⟨bk, 0, none⟩)] w fun e w' => e = .returned (.tuple #[]) ∧ w' = w := by
  have k1 := (cell_of_row w bk 7 _ _ _ hbk).trans hj
  clear hbk hj
  go_enter Tryz.func90, Tryz.ntmps90
  go_wp2
  go_loopg [2] 0 (fun g s2 wr => g = 0 ∧ s2 = .int .i64 0 ∧ wr = w)
  case atStart => exact ⟨rfl, rfl, rfl⟩
  case round =>
    obtain ⟨rfl, rfl, rfl⟩ := hrel
    go_wp2
    refine bodyPost_end (v := .tuple #[]) (by kernel_rfl) rfl ?_
    exact ⟨rfl, rfl⟩
theorem lookRange_none (w : World) (bk : Nat) (cs : Array Value) (hbk : w.heap[bk]? = some (.cells cs 53 (0, 0))) (hj : cs[7]? = some (.slice none 0 0)) :
    Calls Tryz.prog 102 #[.pointer (some ⟨bk, 0, none⟩)] w fun e w' => e = .returned (.bool true) ∧ w' = w := by
  have k1 := (cell_of_row w bk 7 _ _ _ hbk).trans hj
  clear hbk hj
  go_enter Tryz.func102, Tryz.ntmps102
  go_wp2
  go_loopg [3] 0 (fun g s3 wr => g = 0 ∧ s3 = .int .i64 0 ∧ wr = w)
  case atStart => exact ⟨rfl, rfl, rfl⟩
  case round =>
    obtain ⟨rfl, rfl, rfl⟩ := hrel
    go_wp2
    go_ret
    exact ⟨rfl, rfl⟩
theorem fillChange_none (w : World) (bk : Nat) (cs : Array Value) (hbk : w.heap[bk]? = some (.cells cs 53 (0, 0))) (hj : cs[8]? = some (.slice none 0 0)) :
    Calls Tryz.prog 79 #[.pointer (some ⟨bk, 0, none⟩)] w fun e w' => e = .returned (.tuple #[]) ∧ w' = w := by
  have k1 := (cell_of_row w bk 8 _ _ _ hbk).trans hj
  clear hbk hj
  go_enter Tryz.func79, Tryz.ntmps79
  go_wp2
  go_loopg [2] 0 (fun g s2 wr => g = 0 ∧ s2 = .int .i64 0 ∧ wr = w)
  case atStart => exact ⟨rfl, rfl, rfl⟩
  case round =>
    obtain ⟨rfl, rfl, rfl⟩ := hrel
    go_wp2
    refine bodyPost_end (v := .tuple #[]) (by kernel_rfl) rfl ?_
    exact ⟨rfl, rfl⟩
theorem growChange_none (w : World) (bk : Nat) (cs : Array Value) (hbk : w.heap[bk]? = some (.cells cs 53 (0, 0))) (hj : cs[8]? = some (.slice none 0 0)) :
    Calls Tryz.prog 91 #[.pointer (some ⟨bk, 0, none⟩)] w fun e w' => e = .returned (.tuple #[]) ∧ w' = w := by
  have k1 := (cell_of_row w bk 8 _ _ _ hbk).trans hj
  clear hbk hj
  go_enter Tryz.func91, Tryz.ntmps91
  go_wp2
  go_loopg [2] 0 (fun g s2 wr => g = 0 ∧ s2 = .int .i64 0 ∧ wr = w)
  case atStart => exact ⟨rfl, rfl, rfl⟩
  case round =>
    obtain ⟨rfl, rfl, rfl⟩ := hrel
    go_wp2
    refine bodyPost_end (v := .tuple #[]) (by kernel_rfl) rfl ?_
    exact ⟨rfl, rfl⟩
theorem lookChange_none (w : World) (bk : Nat) (cs : Array Value) (hbk : w.heap[bk]? = some (.cells cs 53 (0, 0))) (hj : cs[8]? = some (.slice none 0 0)) :
    Calls Tryz.prog 103 #[.pointer (some ⟨bk, 0, none⟩)] w fun e w' => e = .returned (.bool true) ∧ w' = w := by
  have k1 := (cell_of_row w bk 8 _ _ _ hbk).trans hj
  clear hbk hj
  go_enter Tryz.func103, Tryz.ntmps103
  go_wp2
  go_loopg [3] 0 (fun g s3 wr => g = 0 ∧ s3 = .int .i64 0 ∧ wr = w)
  case atStart => exact ⟨rfl, rfl, rfl⟩
  case round =>
    obtain ⟨rfl, rfl, rfl⟩ := hrel
    go_wp2
    go_ret
    exact ⟨rfl, rfl⟩
theorem fillCall_none (w : World) (bk : Nat) (cs : Array Value) (hbk : w.heap[bk]? = some (.cells cs 53 (0, 0))) (hj : cs[11]? = some (.slice none 0 0)) :
    Calls Tryz.prog 82 #[.pointer (some ⟨bk, 0, none⟩)] w fun e w' => e = .returned (.tuple #[]) ∧ w' = w := by
  have k1 := (cell_of_row w bk 11 _ _ _ hbk).trans hj
  clear hbk hj
  go_enter Tryz.func82, Tryz.ntmps82
  go_wp2
  go_loopg [2] 0 (fun g s2 wr => g = 0 ∧ s2 = .int .i64 0 ∧ wr = w)
  case atStart => exact ⟨rfl, rfl, rfl⟩
  case round =>
    obtain ⟨rfl, rfl, rfl⟩ := hrel
    go_wp2
    refine bodyPost_end (v := .tuple #[]) (by kernel_rfl) rfl ?_
    exact ⟨rfl, rfl⟩
theorem growCall_none (w : World) (bk : Nat) (cs : Array Value) (hbk : w.heap[bk]? = some (.cells cs 53 (0, 0))) (hj : cs[11]? = some (.slice none 0 0)) :
    Calls Tryz.prog 94 #[.pointer (some ⟨bk, 0, none⟩)] w fun e w' => e = .returned (.tuple #[]) ∧ w' = w := by
  have k1 := (cell_of_row w bk 11 _ _ _ hbk).trans hj
  clear hbk hj
  go_enter Tryz.func94, Tryz.ntmps94
  go_wp2
  go_loopg [2] 0 (fun g s2 wr => g = 0 ∧ s2 = .int .i64 0 ∧ wr = w)
  case atStart => exact ⟨rfl, rfl, rfl⟩
  case round =>
    obtain ⟨rfl, rfl, rfl⟩ := hrel
    go_wp2
    refine bodyPost_end (v := .tuple #[]) (by kernel_rfl) rfl ?_
    exact ⟨rfl, rfl⟩
theorem lookCall_none (w : World) (bk : Nat) (cs : Array Value) (hbk : w.heap[bk]? = some (.cells cs 53 (0, 0))) (hj : cs[11]? = some (.slice none 0 0)) :
    Calls Tryz.prog 106 #[.pointer (some ⟨bk, 0, none⟩)] w fun e w' => e = .returned (.bool true) ∧ w' = w := by
  have k1 := (cell_of_row w bk 11 _ _ _ hbk).trans hj
  clear hbk hj
  go_enter Tryz.func106, Tryz.ntmps106
  go_wp2
  go_loopg [3] 0 (fun g s3 wr => g = 0 ∧ s3 = .int .i64 0 ∧ wr = w)
  case atStart => exact ⟨rfl, rfl, rfl⟩
  case round =>
    obtain ⟨rfl, rfl, rfl⟩ := hrel
    go_wp2
    go_ret
    exact ⟨rfl, rfl⟩
theorem fillStep_none (w : World) (bk : Nat) (cs : Array Value) (hbk : w.heap[bk]? = some (.cells cs 53 (0, 0))) (hj : cs[12]? = some (.slice none 0 0)) :
    Calls Tryz.prog 83 #[.pointer (some ⟨bk, 0, none⟩)] w fun e w' => e = .returned (.tuple #[]) ∧ w' = w := by
  have k1 := (cell_of_row w bk 12 _ _ _ hbk).trans hj
  clear hbk hj
  go_enter Tryz.func83, Tryz.ntmps83
  go_wp2
  go_loopg [2] 0 (fun g s2 wr => g = 0 ∧ s2 = .int .i64 0 ∧ wr = w)
  case atStart => exact ⟨rfl, rfl, rfl⟩
  case round =>
    obtain ⟨rfl, rfl, rfl⟩ := hrel
    go_wp2
    refine bodyPost_end (v := .tuple #[]) (by kernel_rfl) rfl ?_
    exact ⟨rfl, rfl⟩
theorem growStep_none (w : World) (bk : Nat) (cs : Array Value) (hbk : w.heap[bk]? = some (.cells cs 53 (0, 0))) (hj : cs[12]? = some (.slice none 0 0)) :
    Calls Tryz.prog 95 #[.pointer (some ⟨bk, 0, none⟩)] w fun e w' => e = .returned (.tuple #[]) ∧ w' = w := by
  have k1 := (cell_of_row w bk 12 _ _ _ hbk).trans hj
  clear hbk hj
  go_enter Tryz.func95, Tryz.ntmps95
  go_wp2
  go_loopg [2] 0 (fun g s2 wr => g = 0 ∧ s2 = .int .i64 0 ∧ wr = w)
  case atStart => exact ⟨rfl, rfl, rfl⟩
  case round =>
    obtain ⟨rfl, rfl, rfl⟩ := hrel
    go_wp2
    refine bodyPost_end (v := .tuple #[]) (by kernel_rfl) rfl ?_
    exact ⟨rfl, rfl⟩
theorem lookStep_none (w : World) (bk : Nat) (cs : Array Value) (hbk : w.heap[bk]? = some (.cells cs 53 (0, 0))) (hj : cs[12]? = some (.slice none 0 0)) :
    Calls Tryz.prog 107 #[.pointer (some ⟨bk, 0, none⟩)] w fun e w' => e = .returned (.bool true) ∧ w' = w := by
  have k1 := (cell_of_row w bk 12 _ _ _ hbk).trans hj
  clear hbk hj
  go_enter Tryz.func107, Tryz.ntmps107
  go_wp2
  go_loopg [3] 0 (fun g s3 wr => g = 0 ∧ s3 = .int .i64 0 ∧ wr = w)
  case atStart => exact ⟨rfl, rfl, rfl⟩
  case round =>
    obtain ⟨rfl, rfl, rfl⟩ := hrel
    go_wp2
    go_ret
    exact ⟨rfl, rfl⟩
end Go.Proofs.YtbfcfjgcmideeaaGreatDoor
