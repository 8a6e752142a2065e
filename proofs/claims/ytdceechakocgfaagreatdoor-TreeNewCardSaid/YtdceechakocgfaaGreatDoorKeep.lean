/- The Book: a list is kept. -/
import Derived.Test.YtdceechakocgfaaGreatDoorHold
import Derived.Test.YtdceechakocgfaaGreatDoorProg
import Derived.WalkKit
import Derived.BigQuiet
import Derived.Deep.QuietTactic
import Derived.Lib.Hide
import Derived.Laws.EntriesVeiled
import Derived.StillTailTactics
import Derived.Deep.RegionHeld3
import Derived.Deep.MidRow
import Derived.Deep.Cut
import Derived.Deep.RegionLaw
import Derived.Deep.RegionHeldLaw
import Derived.Deep.AppendLies
import Derived.Great.BuildSlice
import Derived.Laws.CopyOwn
namespace Go.Proofs.YtdceechakocgfaaGreatDoor
open Go.RowKit
attribute [local go_sem] Later.cell_eq
theorem set_get {cs : Array Value} {i : Nat} {v : Value} (h : cs[i]? = some v) (u : Value) : (cs.setIfInBounds i u)[i]? = some u := by
  simp [(Array.getElem?_eq_some_iff.1 h).1]
theorem set_get_ne (cs : Array Value) {i j : Nat} (u : Value) (h : i ≠ j) : (cs.setIfInBounds i u)[j]? = cs[j]? := Array.getElem?_setIfInBounds_ne h
/-- What keeping a list does. -/
def Kept (w : World) (W : World) (bk J : Nat) (T H : TypeId) (cs : Array Value) (n : Int) (sv l : Value) (rows : List (List Value)) (e : Ending) (w' : World) : Prop :=
  ∃ sv', (e = .returned (.tuple #[]) ∧ w'.heap[bk]? = some (.cells ((cs.setIfInBounds 0 (.int .i64 (n + 1))).setIfInBounds J sv') T (0, 0)) ∧ Own w' W.heap.size H 3 sv' (rows ++ [[l, .slice none 0 0, .int .i64 (n + 1)]])) ∧ Turned (fun k => k = bk ∨ sv.ownBlock = some k) w w' ∧ (sv'.ownBlock = sv.ownBlock ∨ ∃ k, sv'.ownBlock = some k ∧ w.heap.size ≤ k)
theorem kept_end {w W w1 w3 : World} {bk J : Nat} {T H : TypeId} {cs : Array Value} {n : Int} {sv l sv' : Value} {rows : List (List Value)} (o : Obj) (hT1 : Turned (fun k => k = bk ∨ sv.ownBlock = some k) w w1) (hr3 : w3.heap[bk]? = some (.cells (cs.setIfInBounds 0 (.int .i64 (n + 1))) T (0, 0)))
    (hO3 : Own w3 W.heap.size H 3 sv' (rows ++ [[l, .slice none 0 0, .int .i64 (n + 1)]])) (hg3 : (w1.alloc o).drew.grownBy w3 sv.ownBlock) (hv3 : sv'.ownBlock = sv.ownBlock ∨ sv'.ownBlock = some (w1.alloc o).drew.heap.size) (hne : sv.ownBlock ≠ some bk) (hbl : bk < w1.heap.size) :
    Kept w W bk J T H cs n sv l rows (.returned (.tuple #[])) (w3.setCell ⟨bk, J, none⟩ sv') := by
  have hB : Below w1.heap.size w1 (w1.alloc o).drew := (below_alloc (Below.refl _ _) o).drew
  refine ⟨sv', ⟨rfl, heap_setCell_same w3 bk J _ T _ hr3, hO3.turned (S := fun k => k = bk) (turned_set w3 bk J _ rfl) fun k hk e => ?_⟩, ?_, ?_⟩
  · subst e
    rcases hv3 with h | h
    · exact hne (h ▸ hk)
    · have := hB.size
      rw [h] at hk; cases hk; omega
  · refine hT1.trans (T := fun k => k = bk ∨ sv.ownBlock = some k) ?_ fun k _ h => h
    refine Turned.trans (w1 := (w1.alloc o).drew) (turned_below hB) (T := fun k => k = bk ∨ sv.ownBlock = some k) ?_ fun k _ h => h
    exact (turned_grown hg3 (S := fun k => k = bk ∨ sv.ownBlock = some k) fun k h => .inr h).trans (turned_set w3 bk J _ (.inl rfl)) fun k _ h => h
  · rcases hv3 with h | h
    · exact .inl h
    · exact .inr ⟨_, h, Nat.le_trans hT1.size hB.size⟩
theorem elem_hByte : Elem Tryz.prog 22 127 3 56 := Elem.mk' (z := .agg #[.slice none 0 0, .slice none 0 0, .int .i64 0]) Tryz.underlying22 (by kernel_rfl) rfl (by decide)
set_option maxHeartbeats 2000000 in
theorem keepByte_calls (W w : World) (bk : Nat) (cs : Array Value) (n : Int) (hn : 0 ≤ n ∧ n ≤ 1000000000) (sv : Value) (rows : List (List Value)) (A : Option Addr) (m c : Nat)
    (hbk : w.heap[bk]? = some (.cells cs 35 (0, 0))) (h0 : cs[0]? = some (.int .i64 n)) (h1 : cs[1]? = some sv) (hb : W.heap.size ≤ bk) (hH : Own w W.heap.size 127 3 sv rows) (hne : sv.ownBlock ≠ some bk) (hl : rows.length ≤ 1000000) (hW : Below W.heap.size W w) :
    Calls Tryz.prog 180 #[.pointer (some ⟨bk, 0, none⟩), .slice A m c] w (Kept w W bk 1 35 127 cs n sv (.slice A m c) rows) := by
  have k0 : w.cell? ⟨bk, 0, none⟩ = some (.int .i64 n) := (cell_of_row w bk 0 _ _ _ hbk).trans h0
  have f0 : w.frozen? ⟨bk, 0, none⟩ = false := frozen_of_row w bk 0 _ _ hbk
  have hsum : IntKind.i64.wrap (n + 1) = n + 1 := IntWalk.i64_in _ (by omega)
  have HBK := Lib.hid hbk
  have HC := Lib.hid (And.intro h0 h1)
  have HH := Lib.hid hH
  have HW := Lib.hid hW
  have HNE := Lib.hid hne
  clear hbk h0 h1 hH hW hne
  go_enter Tryz.func180, Tryz.ntmps180
  go_upto_region 1 with fail
  obtain ⟨w1, hw1⟩ : ∃ x, x = w.setCell ⟨bk, 0, none⟩ (.int .i64 (n + 1)) := ⟨_, rfl⟩
  have hb1 : w1.heap[bk]? = some (.cells (cs.setIfInBounds 0 (.int .i64 (n + 1))) 35 (0, 0)) := by rw [hw1]; exact heap_setCell_same w bk 0 cs _ _ HBK.out
  have hT1' : Turned (fun k => k = bk) w w1 := by rw [hw1]; exact turned_set w bk 0 _ rfl
  have hT1 : Turned (fun k => k = bk ∨ sv.ownBlock = some k) w w1 := hT1'.mono fun _ h => .inl h
  have hW1 : Below W.heap.size W w1 := by rw [hw1]; exact HW.out.setCell (by dsimp only; exact hb) _
  rw [← hw1]
  clear hw1 k0 f0
  have HB1 := Lib.hid hb1
  have HT1 := Lib.hid hT1
  have HW1 := Lib.hid hW1
  have HH1 := Lib.hid (HH.out.turned (S := fun k => k = bk) (w' := w1) hT1' (fun k hk e => HNE.out (by rw [hk, e])))
  have k0 := (cell_of_row w1 bk 0 _ _ _ hb1).trans (set_get HC.out.1 _)
  have k1 := (cell_of_row w1 bk 1 _ _ _ hb1).trans ((set_get_ne _ _ (by decide)).trans HC.out.2)
  have HBL := Lib.hid (Array.getElem?_eq_some_iff.1 hb1).1
  clear hb1 hT1 hT1' hW1
  have hao : ∀ o : Obj, (w1.alloc o).drew.cell? ⟨bk, 0, none⟩ = some (.int .i64 (n + 1)) ∧ (w1.alloc o).drew.cell? ⟨bk, 1, none⟩ = some sv := fun o => ⟨cell_new k0 o, cell_new k1 o⟩
  have ha0 : ∀ o : Obj, (w1.alloc o).cell? ⟨bk, 0, none⟩ = some (.int .i64 (n + 1)) := fun o => (hao o).1
  have ha1 : ∀ o : Obj, (w1.alloc o).cell? ⟨bk, 1, none⟩ = some sv := fun o => (hao o).2
  have HAO := Lib.hid hao
  clear hao
  go_region_law (first
    | (refine step_append_many (W := W) (A := some ⟨w1.heap.size, 0, none⟩) (m := 1) (c := 1) (by rfl) (.tmp 15) (.tmp 22) 22 (by rfl) elem_hByte rows.length (rows := rows) rfl (by simp [Act.eval]) ((HH1.out.alloc _).keep (Below.refl _ _).drew) ((below_alloc HW1.out _).drew) [[.slice A m c, .slice none 0 0, .int .i64 (n + 1)]] (by simp [Act.eval]) (fun h => by cases h) rfl (fun r hr => by simp at hr; rcases hr with rfl; rfl) (.inr ⟨_, 0, rfl, fun j u hu => by show (w1.alloc _).cell? _ = _; rw [cell_of_row _ _ _ _ _ _ (heap_alloc_new w1 _)]; simpa using hu⟩) (fun u hu => by simp at hu; rcases hu with rfl | rfl | rfl <;> rfl) (by unfold maxLen; omega) (by omega) ?_
       intro v' w3 hown3 hb3 hg3 hv3
       obtain ⟨A3, n3, c3, rfl⟩ := own_slice_ hown3
       have hr3 : w3.heap[bk]? = some (.cells (cs.setIfInBounds 0 (.int .i64 (n + 1))) 35 (0, 0)) := by
         refine (hg3.block bk (Nat.lt_of_lt_of_le HBL.out ((below_alloc (Below.refl w1.heap.size w1) _).drew).size) (fun e => HNE.out e.symm)).trans ?_
         show (w1.alloc _).heap[bk]? = _
         rw [heap_alloc_old _ _ HBL.out]; exact HB1.out
       have k3 : w3.cell? ⟨bk, 1, none⟩ = some sv := (cell_of_row w3 bk 1 _ _ _ hr3).trans ((set_get_ne _ _ (by decide)).trans HC.out.2)
       have f3 : w3.frozen? ⟨bk, 1, none⟩ = false := frozen_of_row w3 bk 1 _ _ hr3
       have HR3 := Lib.hid hr3
       have HO3 := Lib.hid hown3
       have HG3 := Lib.hid hg3
       clear hown3 hb3 hg3 hr3))
  all_goals refine bodyPost_end (v := .tuple #[]) (by kernel_rfl) rfl ?_
  all_goals exact kept_end _ HT1.out HR3.out HO3.out HG3.out hv3 HNE.out HBL.out
theorem elem_hEntry : Elem Tryz.prog 30 162 3 56 := Elem.mk' (z := .agg #[.slice none 0 0, .slice none 0 0, .int .i64 0]) Tryz.underlying30 (by kernel_rfl) rfl (by decide)
set_option maxHeartbeats 2000000 in
theorem keepEntry_calls (W w : World) (bk : Nat) (cs : Array Value) (n : Int) (hn : 0 ≤ n ∧ n ≤ 1000000000) (sv : Value) (rows : List (List Value)) (A : Option Addr) (m c : Nat)
    (hbk : w.heap[bk]? = some (.cells cs 35 (0, 0))) (h0 : cs[0]? = some (.int .i64 n)) (h1 : cs[9]? = some sv) (hb : W.heap.size ≤ bk) (hH : Own w W.heap.size 162 3 sv rows) (hne : sv.ownBlock ≠ some bk) (hl : rows.length ≤ 1000000) (hW : Below W.heap.size W w) :
    Calls Tryz.prog 181 #[.pointer (some ⟨bk, 0, none⟩), .slice A m c] w (Kept w W bk 9 35 162 cs n sv (.slice A m c) rows) := by
  have k0 : w.cell? ⟨bk, 0, none⟩ = some (.int .i64 n) := (cell_of_row w bk 0 _ _ _ hbk).trans h0
  have f0 : w.frozen? ⟨bk, 0, none⟩ = false := frozen_of_row w bk 0 _ _ hbk
  have hsum : IntKind.i64.wrap (n + 1) = n + 1 := IntWalk.i64_in _ (by omega)
  have HBK := Lib.hid hbk
  have HC := Lib.hid (And.intro h0 h1)
  have HH := Lib.hid hH
  have HW := Lib.hid hW
  have HNE := Lib.hid hne
  clear hbk h0 h1 hH hW hne
  go_enter Tryz.func181, Tryz.ntmps181
  go_upto_region 1 with fail
  obtain ⟨w1, hw1⟩ : ∃ x, x = w.setCell ⟨bk, 0, none⟩ (.int .i64 (n + 1)) := ⟨_, rfl⟩
  have hb1 : w1.heap[bk]? = some (.cells (cs.setIfInBounds 0 (.int .i64 (n + 1))) 35 (0, 0)) := by rw [hw1]; exact heap_setCell_same w bk 0 cs _ _ HBK.out
  have hT1' : Turned (fun k => k = bk) w w1 := by rw [hw1]; exact turned_set w bk 0 _ rfl
  have hT1 : Turned (fun k => k = bk ∨ sv.ownBlock = some k) w w1 := hT1'.mono fun _ h => .inl h
  have hW1 : Below W.heap.size W w1 := by rw [hw1]; exact HW.out.setCell (by dsimp only; exact hb) _
  rw [← hw1]
  clear hw1 k0 f0
  have HB1 := Lib.hid hb1
  have HT1 := Lib.hid hT1
  have HW1 := Lib.hid hW1
  have HH1 := Lib.hid (HH.out.turned (S := fun k => k = bk) (w' := w1) hT1' (fun k hk e => HNE.out (by rw [hk, e])))
  have k0 := (cell_of_row w1 bk 0 _ _ _ hb1).trans (set_get HC.out.1 _)
  have k1 := (cell_of_row w1 bk 9 _ _ _ hb1).trans ((set_get_ne _ _ (by decide)).trans HC.out.2)
  have HBL := Lib.hid (Array.getElem?_eq_some_iff.1 hb1).1
  clear hb1 hT1 hT1' hW1
  have hao : ∀ o : Obj, (w1.alloc o).drew.cell? ⟨bk, 0, none⟩ = some (.int .i64 (n + 1)) ∧ (w1.alloc o).drew.cell? ⟨bk, 9, none⟩ = some sv := fun o => ⟨cell_new k0 o, cell_new k1 o⟩
  have ha0 : ∀ o : Obj, (w1.alloc o).cell? ⟨bk, 0, none⟩ = some (.int .i64 (n + 1)) := fun o => (hao o).1
  have ha1 : ∀ o : Obj, (w1.alloc o).cell? ⟨bk, 9, none⟩ = some sv := fun o => (hao o).2
  have HAO := Lib.hid hao
  clear hao
  go_region_law (first
    | (refine step_append_many (W := W) (A := some ⟨w1.heap.size, 0, none⟩) (m := 1) (c := 1) (by rfl) (.tmp 15) (.tmp 22) 30 (by rfl) elem_hEntry rows.length (rows := rows) rfl (by simp [Act.eval]) ((HH1.out.alloc _).keep (Below.refl _ _).drew) ((below_alloc HW1.out _).drew) [[.slice A m c, .slice none 0 0, .int .i64 (n + 1)]] (by simp [Act.eval]) (fun h => by cases h) rfl (fun r hr => by simp at hr; rcases hr with rfl; rfl) (.inr ⟨_, 0, rfl, fun j u hu => by show (w1.alloc _).cell? _ = _; rw [cell_of_row _ _ _ _ _ _ (heap_alloc_new w1 _)]; simpa using hu⟩) (fun u hu => by simp at hu; rcases hu with rfl | rfl | rfl <;> rfl) (by unfold maxLen; omega) (by omega) ?_
       intro v' w3 hown3 hb3 hg3 hv3
       obtain ⟨A3, n3, c3, rfl⟩ := own_slice_ hown3
       have hr3 : w3.heap[bk]? = some (.cells (cs.setIfInBounds 0 (.int .i64 (n + 1))) 35 (0, 0)) := by
         refine (hg3.block bk (Nat.lt_of_lt_of_le HBL.out ((below_alloc (Below.refl w1.heap.size w1) _).drew).size) (fun e => HNE.out e.symm)).trans ?_
         show (w1.alloc _).heap[bk]? = _
         rw [heap_alloc_old _ _ HBL.out]; exact HB1.out
       have k3 : w3.cell? ⟨bk, 9, none⟩ = some sv := (cell_of_row w3 bk 9 _ _ _ hr3).trans ((set_get_ne _ _ (by decide)).trans HC.out.2)
       have f3 : w3.frozen? ⟨bk, 9, none⟩ = false := frozen_of_row w3 bk 9 _ _ hr3
       have HR3 := Lib.hid hr3
       have HO3 := Lib.hid hown3
       have HG3 := Lib.hid hg3
       clear hown3 hb3 hg3 hr3))
  all_goals refine bodyPost_end (v := .tuple #[]) (by kernel_rfl) rfl ?_
  all_goals exact kept_end _ HT1.out HR3.out HO3.out HG3.out hv3 HNE.out HBL.out
theorem elem_hNode : Elem Tryz.prog 31 165 3 56 := Elem.mk' (z := .agg #[.slice none 0 0, .slice none 0 0, .int .i64 0]) Tryz.underlying31 (by kernel_rfl) rfl (by decide)
set_option maxHeartbeats 2000000 in
theorem keepNode_calls (W w : World) (bk : Nat) (cs : Array Value) (n : Int) (hn : 0 ≤ n ∧ n ≤ 1000000000) (sv : Value) (rows : List (List Value)) (A : Option Addr) (m c : Nat)
    (hbk : w.heap[bk]? = some (.cells cs 35 (0, 0))) (h0 : cs[0]? = some (.int .i64 n)) (h1 : cs[10]? = some sv) (hb : W.heap.size ≤ bk) (hH : Own w W.heap.size 165 3 sv rows) (hne : sv.ownBlock ≠ some bk) (hl : rows.length ≤ 1000000) (hW : Below W.heap.size W w) :
    Calls Tryz.prog 103 #[.pointer (some ⟨bk, 0, none⟩), .slice A m c] w (Kept w W bk 10 35 165 cs n sv (.slice A m c) rows) := by
  have k0 : w.cell? ⟨bk, 0, none⟩ = some (.int .i64 n) := (cell_of_row w bk 0 _ _ _ hbk).trans h0
  have f0 : w.frozen? ⟨bk, 0, none⟩ = false := frozen_of_row w bk 0 _ _ hbk
  have hsum : IntKind.i64.wrap (n + 1) = n + 1 := IntWalk.i64_in _ (by omega)
  have HBK := Lib.hid hbk
  have HC := Lib.hid (And.intro h0 h1)
  have HH := Lib.hid hH
  have HW := Lib.hid hW
  have HNE := Lib.hid hne
  clear hbk h0 h1 hH hW hne
  go_enter Tryz.func103, Tryz.ntmps103
  go_upto_region 1 with fail
  obtain ⟨w1, hw1⟩ : ∃ x, x = w.setCell ⟨bk, 0, none⟩ (.int .i64 (n + 1)) := ⟨_, rfl⟩
  have hb1 : w1.heap[bk]? = some (.cells (cs.setIfInBounds 0 (.int .i64 (n + 1))) 35 (0, 0)) := by rw [hw1]; exact heap_setCell_same w bk 0 cs _ _ HBK.out
  have hT1' : Turned (fun k => k = bk) w w1 := by rw [hw1]; exact turned_set w bk 0 _ rfl
  have hT1 : Turned (fun k => k = bk ∨ sv.ownBlock = some k) w w1 := hT1'.mono fun _ h => .inl h
  have hW1 : Below W.heap.size W w1 := by rw [hw1]; exact HW.out.setCell (by dsimp only; exact hb) _
  rw [← hw1]
  clear hw1 k0 f0
  have HB1 := Lib.hid hb1
  have HT1 := Lib.hid hT1
  have HW1 := Lib.hid hW1
  have HH1 := Lib.hid (HH.out.turned (S := fun k => k = bk) (w' := w1) hT1' (fun k hk e => HNE.out (by rw [hk, e])))
  have k0 := (cell_of_row w1 bk 0 _ _ _ hb1).trans (set_get HC.out.1 _)
  have k1 := (cell_of_row w1 bk 10 _ _ _ hb1).trans ((set_get_ne _ _ (by decide)).trans HC.out.2)
  have HBL := Lib.hid (Array.getElem?_eq_some_iff.1 hb1).1
  clear hb1 hT1 hT1' hW1
  have hao : ∀ o : Obj, (w1.alloc o).drew.cell? ⟨bk, 0, none⟩ = some (.int .i64 (n + 1)) ∧ (w1.alloc o).drew.cell? ⟨bk, 10, none⟩ = some sv := fun o => ⟨cell_new k0 o, cell_new k1 o⟩
  have ha0 : ∀ o : Obj, (w1.alloc o).cell? ⟨bk, 0, none⟩ = some (.int .i64 (n + 1)) := fun o => (hao o).1
  have ha1 : ∀ o : Obj, (w1.alloc o).cell? ⟨bk, 10, none⟩ = some sv := fun o => (hao o).2
  have HAO := Lib.hid hao
  clear hao
  go_region_law (first
    | (refine step_append_many (W := W) (A := some ⟨w1.heap.size, 0, none⟩) (m := 1) (c := 1) (by rfl) (.tmp 15) (.tmp 22) 31 (by rfl) elem_hNode rows.length (rows := rows) rfl (by simp [Act.eval]) ((HH1.out.alloc _).keep (Below.refl _ _).drew) ((below_alloc HW1.out _).drew) [[.slice A m c, .slice none 0 0, .int .i64 (n + 1)]] (by simp [Act.eval]) (fun h => by cases h) rfl (fun r hr => by simp at hr; rcases hr with rfl; rfl) (.inr ⟨_, 0, rfl, fun j u hu => by show (w1.alloc _).cell? _ = _; rw [cell_of_row _ _ _ _ _ _ (heap_alloc_new w1 _)]; simpa using hu⟩) (fun u hu => by simp at hu; rcases hu with rfl | rfl | rfl <;> rfl) (by unfold maxLen; omega) (by omega) ?_
       intro v' w3 hown3 hb3 hg3 hv3
       obtain ⟨A3, n3, c3, rfl⟩ := own_slice_ hown3
       have hr3 : w3.heap[bk]? = some (.cells (cs.setIfInBounds 0 (.int .i64 (n + 1))) 35 (0, 0)) := by
         refine (hg3.block bk (Nat.lt_of_lt_of_le HBL.out ((below_alloc (Below.refl w1.heap.size w1) _).drew).size) (fun e => HNE.out e.symm)).trans ?_
         show (w1.alloc _).heap[bk]? = _
         rw [heap_alloc_old _ _ HBL.out]; exact HB1.out
       have k3 : w3.cell? ⟨bk, 10, none⟩ = some sv := (cell_of_row w3 bk 10 _ _ _ hr3).trans ((set_get_ne _ _ (by decide)).trans HC.out.2)
       have f3 : w3.frozen? ⟨bk, 10, none⟩ = false := frozen_of_row w3 bk 10 _ _ hr3
       have HR3 := Lib.hid hr3
       have HO3 := Lib.hid hown3
       have HG3 := Lib.hid hg3
       clear hown3 hb3 hg3 hr3))
  all_goals refine bodyPost_end (v := .tuple #[]) (by kernel_rfl) rfl ?_
  all_goals exact kept_end _ HT1.out HR3.out HO3.out HG3.out hv3 HNE.out HBL.out
end Go.Proofs.YtdceechakocgfaaGreatDoor
