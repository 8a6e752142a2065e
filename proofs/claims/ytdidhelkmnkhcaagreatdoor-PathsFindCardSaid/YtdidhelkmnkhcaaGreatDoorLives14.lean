/- lives of the paths' laws. -/
import Derived.Test.YtdidhelkmnkhcaaGreatDoorTinyLink
import Derived.Test.YtdidhelkmnkhcaaGreatDoorFind
import Derived.Test.YtdidhelkmnkhcaaGreatDoorBase
import Derived.Test.YtdidhelkmnkhcaaGreatDoorM2
import Derived.Deep.RegionHeldLaw
import Derived.Deep.AppendLies
namespace Go.Proofs.YtdidhelkmnkhcaaGreatDoor
open Go.RowKit
attribute [local go_sem] Later.cell_eq
theorem elem_ent14 : Elem Tryz.prog 83 105 2 24 := Elem.mk' (z := .agg #[.string ⟨#[]⟩, .int .i64 0]) Tryz.underlying83 (by kernel_rfl) rfl (by decide)
theorem elem_node14 : Elem Tryz.prog 36 85 10 120 := Elem.mk' (z := .agg node0) Tryz.underlying36 (by kernel_rfl) rfl (by decide)
theorem own_entry {W : World} {B b : Nat} {s : ByteArray} {n : Int} (h : W.heap[b]? = some (.cells #[.string s, .int .i64 n] 105 (0, 0))) (hB : B ≤ b) : Own W B 105 2 (.slice (some ⟨b, 0, none⟩) 1 1) [[.string s, .int .i64 n]] :=
  ⟨⟨rfl, .inr ⟨b, 1, _, rfl, hB, h, Nat.le_refl _, by unfold maxLen; omega, rfl, rfl⟩⟩, by simp⟩
theorem own_ne {w : World} {B : Nat} {e : TypeId} {size : Nat} {v : Value} {rows : List (List Value)} (n : Nat) (h : Own w B e size v rows) (hn : rows.length = n) (h0 : n ≠ 0) : ∃ g cap, v = .slice (some ⟨g, 0, none⟩) n cap ∧ n ≤ cap ∧ cap ≤ maxLen ∧ B ≤ g ∧ g < w.heap.size := by
  subst hn
  rcases h.shape with ⟨-, h⟩ | h
  · exact absurd (by rw [h]; rfl) h0
  · exact h
theorem Own.grown_ {w w' : World} {B : Nat} {e : TypeId} {size : Nat} {v : Value} {rows : List (List Value)} {r : Option Nat} (h : Own w B e size v rows) (hg : w.grownBy w' r) (hr : ∀ k, r = some k → v.ownBlock ≠ some k) : Own w' B e size v rows :=
  ⟨h.own.kept hg (by cases r with
    | none => cases v.ownBlock <;> simp
    | some k => exact .inr (hr k rfl)), h.each⟩
theorem Own.set_far {w : World} {B : Nat} {e : TypeId} {size : Nat} {v : Value} {rows : List (List Value)} (h : Own w B e size v rows) {p : Addr} (hp : v.ownBlock ≠ some p.block) (u : Value) : Own (w.setCell p u) B e size v rows :=
  h.grown_ (r := some p.block) ⟨rfl, rfl, rfl, Nat.le_of_eq (by simp [World.setCell]), fun k _ hn => Below.heap_setCell _ _ _ _ (fun e => hn (by rw [e]))⟩ (fun k hk => by cases hk; exact hp)
/-- The nodes' block behind the first append: node 1's list lies in block g3. -/
structure LinkA (W : World) (B bx g cap g3 c3 b2 b3 : Nat) : Prop where
  hx : W.heap[bx]? = some (.cells #[.slice (some ⟨g, 0, none⟩) 4 cap, .int .i64 0] 38 (0, 0))
  hg : ∃ cur : Array Value, W.heap[g]? = some (.cells cur 85 (0, 0)) ∧ cur.size = cap * 10 ∧ List.take ((2 + 2) * 10) cur.toList = (node0 ++ nodeR (.slice (some ⟨g3, 0, none⟩) 3 c3) 3).toList ++ (node2 (.slice (some ⟨b2, 0, none⟩) 1 1) ++ node3 (.slice (some ⟨b3, 0, none⟩) 5 5)).toList
  ho : Own W B 105 2 (.slice (some ⟨g3, 0, none⟩) 3 c3) [[.string ⟨#[97]⟩, .int .i64 2], [.string ⟨#[108]⟩, .int .i64 4], [.string ⟨#[109]⟩, .int .i64 5]]
  h2 : W.heap[b2]? = some (.cells #[.string ⟨#[98]⟩, .int .i64 3] 105 (0, 0))
  h3 : W.heap[b3]? = some (.cells #[.int .u8 104, .int .u8 101, .int .u8 108, .int .u8 108, .int .u8 111] 5 (5, 6))
  go : g3 ≠ g
  gx : g3 ≠ bx
theorem linkA_made {wA w3 : World} {B bx g cap b1 g3 c3 b2 b3 : Nat} {cur : Array Value} (hf : ∀ k, k < wA.heap.size → k ≠ b1 → w3.heap[k]? = wA.heap[k]?) (hx : wA.heap[bx]? = some (.cells #[.slice (some ⟨g, 0, none⟩) 4 cap, .int .i64 0] 38 (0, 0)))
    (hg : wA.heap[g]? = some (.cells cur 85 (0, 0))) (hc : cur.size = cap * 10) (ht : List.take ((2 + 2) * 10) cur.toList = (node0 ++ nodeR (.slice (some ⟨b1, 0, none⟩) 1 1) 3).toList ++ (node2 (.slice (some ⟨b2, 0, none⟩) 1 1) ++ node3 (.slice (some ⟨b3, 0, none⟩) 5 5)).toList)
    (ho : Own w3 B 105 2 (.slice (some ⟨g3, 0, none⟩) 3 c3) [[.string ⟨#[97]⟩, .int .i64 2], [.string ⟨#[108]⟩, .int .i64 4], [.string ⟨#[109]⟩, .int .i64 5]]) (hgo : g3 ≠ g) (hgx : g3 ≠ bx)
    (h2 : wA.heap[b2]? = some (.cells #[.string ⟨#[98]⟩, .int .i64 3] 105 (0, 0))) (h3 : wA.heap[b3]? = some (.cells #[.int .u8 104, .int .u8 101, .int .u8 108, .int .u8 108, .int .u8 111] 5 (5, 6)))
    (n1 : g ≠ bx) (n2 : g ≠ b1) (n3 : g ≠ b2) (n4 : g ≠ b3) (m1 : bx ≠ b1) (m2 : b2 ≠ b1) (m3 : b3 ≠ b1) :
    LinkA (w3.setCell ⟨g, 18, none⟩ (.slice (some ⟨g3, 0, none⟩) 3 c3)) B bx g cap g3 c3 b2 b3 := by
  have lt : ∀ {k : Nat} {o : Obj}, wA.heap[k]? = some o → k < wA.heap.size := fun h => (Array.getElem?_eq_some_iff.1 h).1
  have far : ∀ {k : Nat} {o : Obj}, wA.heap[k]? = some o → k ≠ b1 → k ≠ g → (w3.setCell ⟨g, 18, none⟩ (.slice (some ⟨g3, 0, none⟩) 3 c3)).heap[k]? = some o := fun h a b => by
    rw [Below.heap_setCell _ _ _ _ b, hf _ (lt h) a]; exact h
  refine ⟨far hx m1 (Ne.symm n1), ⟨_, heap_setCell_same w3 g 18 _ _ _ ((hf g (lt hg) n2).trans hg), by simpa using hc, ?_⟩, ?_, far h2 m2 (Ne.symm n3), far h3 m3 (Ne.symm n4), hgo, hgx⟩
  · simp only [Array.toList_setIfInBounds]
    rw [List.take_set, ht]; rfl
  · exact ⟨ho.own.kept (row := some g) ⟨rfl, rfl, rfl, Nat.le_of_eq (by simp [World.setCell]), fun k hk hn => Below.heap_setCell _ _ _ _ (fun e => hn (by rw [e]))⟩ (by simpa [Value.ownBlock] using hgo), ho.each⟩
def nodeL (s : ByteArray) : Array Value := #[.int .u8 3, .int .i64 511, .int .i64 0, .int .i64 0, .int .i64 1, .int .i64 0, .slice none 0 0, .string s, .slice none 0 0, .int .i64 0]
def linkRows (g3 c3 b2 b3 : Nat) : List (List Value) := [node0.toList, (nodeR (.slice (some ⟨g3, 0, none⟩) 3 c3) 3).toList, (node2 (.slice (some ⟨b2, 0, none⟩) 1 1)).toList, (node3 (.slice (some ⟨b3, 0, none⟩) 5 5)).toList]
theorem LinkA.own {W : World} {B bx g cap g3 c3 b2 b3 : Nat} (h : LinkA W B bx g cap g3 c3 b2 b3) (hB : B ≤ g) (h4 : 4 ≤ cap) (hm : cap ≤ maxLen) : Own W B 85 10 (.slice (some ⟨g, 0, none⟩) 4 cap) (linkRows g3 c3 b2 b3) := by
  obtain ⟨cur, h1, h2, h3⟩ := h.hg
  exact ⟨⟨by simp [linkRows, node0, nodeR, node2, node3], .inr ⟨g, cap, cur, by simp [linkRows], hB, h1, h4, hm, h2, h3.trans (by simp [linkRows])⟩⟩, by simp [linkRows, node0, nodeR, node2, node3]⟩
theorem link_at {W : World} {B g4 c4 g3 c3 b2 b3 : Nat} (ho : Own W B 85 10 (.slice (some ⟨g4, 0, none⟩) 6 c4) (linkRows g3 c3 b2 b3 ++ [(nodeL ⟨#[97, 47, 98]⟩).toList, (nodeL ⟨#[109]⟩).toList]))
    (hc3 : 3 ≤ c3) (he : Own W B 105 2 (.slice (some ⟨g3, 0, none⟩) 3 c3) [[.string ⟨#[97]⟩, .int .i64 2], [.string ⟨#[108]⟩, .int .i64 4], [.string ⟨#[109]⟩, .int .i64 5]])
    (h2 : W.heap[b2]? = some (.cells #[.string ⟨#[98]⟩, .int .i64 3] 105 (0, 0))) (h3 : W.heap[b3]? = some (.cells #[.int .u8 104, .int .u8 101, .int .u8 108, .int .u8 108, .int .u8 111] 5 (5, 6))) :
    NodesAt W (some ⟨g4, 0, none⟩) linkT.nodes := by
  have hE : EntsAt W (some ⟨g3, 0, none⟩) [⟨⟨#[97]⟩, 2⟩, ⟨⟨#[108]⟩, 4⟩, ⟨⟨#[109]⟩, 5⟩] := fun k e hk => by
    match k, hk with
    | 0, hk => cases hk; exact ⟨g3, 0, rfl, he.cell (i := 0) rfl (j := 0) rfl, he.cell (i := 0) rfl (j := 1) rfl⟩
    | 1, hk => cases hk; exact ⟨g3, 0, rfl, he.cell (i := 1) rfl (j := 0) rfl, he.cell (i := 1) rfl (j := 1) rfl⟩
    | 2, hk => cases hk; exact ⟨g3, 0, rfl, he.cell (i := 2) rfl (j := 0) rfl, he.cell (i := 2) rfl (j := 1) rfl⟩
  have hs : ∀ (i : Nat) (r : List Value), (linkRows g3 c3 b2 b3 ++ [(nodeL ⟨#[97, 47, 98]⟩).toList, (nodeL ⟨#[109]⟩).toList])[i]? = some r → ∀ (j : Nat) v, r[j]? = some v → W.cell? ⟨g4, 0 + i * 10 + j, none⟩ = some v := fun i r hi j v hj => ho.cell hi hj
  intro i n hi
  match i, hi with
  | 0, hi => cases hi; exact ⟨g4, 0, node0.toList, rfl, ⟨none, 0, none, 0, rfl, Nat.le_refl _, bytes_nil _ _, Nat.le_refl _, ents_nil _ _⟩, hs 0 _ rfl⟩
  | 1, hi => cases hi; exact ⟨g4, 0, _, rfl, ⟨none, 0, _, c3, rfl, Nat.le_refl _, bytes_nil _ _, hc3, hE⟩, hs 1 _ rfl⟩
  | 2, hi => cases hi; exact ⟨g4, 0, _, rfl, ⟨none, 0, _, 1, rfl, Nat.le_refl _, bytes_nil _ _, Nat.le_refl _, ents_one h2⟩, hs 2 _ rfl⟩
  | 3, hi => cases hi; exact ⟨g4, 0, _, rfl, ⟨_, 5, none, 0, rfl, Nat.le_refl _, bytes_row (l := [104, 101, 108, 108, 111]) h3, Nat.le_refl _, ents_nil _ _⟩, hs 3 _ rfl⟩
  | 4, hi => cases hi; exact ⟨g4, 0, _, rfl, ⟨none, 0, none, 0, rfl, Nat.le_refl _, bytes_nil _ _, Nat.le_refl _, ents_nil _ _⟩, hs 4 _ rfl⟩
  | 5, hi => cases hi; exact ⟨g4, 0, _, rfl, ⟨none, 0, none, 0, rfl, Nat.le_refl _, bytes_nil _ _, Nat.le_refl _, ents_nil _ _⟩, hs 5 _ rfl⟩
theorem link_find_calls (p : ByteArray) (f : Bool) (d : Int) (s : ByteArray) (n : Int) (b : Bool) (k : Int) (h : findS linkT 0 0 0 1 p.data.toList f = (⟨d, s.data.toList, n, b⟩, k)) (A : Option Addr) (c : Nat) (w : World) (hA : NodesAt w A linkT.nodes) :
    Calls Tryz.prog 17 #[.agg #[.slice A 6 c, .int .i64 0], .agg #[.int .i64 0, .int .i64 0, .int .i64 0, .int .i64 1], .string p, .bool f] w fun e w' => e = .returned (.tuple #[.agg #[.int .i64 d, .string s, .int .i64 n, .bool b], .int .i64 k]) ∧ Below w.heap.size w w' := by
  have := find_path_calls linkT link_fits 0 0 0 1 p f A c w hA
  rw [h] at this
  simp only [PlaceV.val, PlaceV.cells, bytes_back] at this
  exact this
theorem row4 {w : World} {b : Nat} {x0 x1 x2 x3 : Value} {ty : TypeId} (h : w.heap[b]? = some (.cells #[x0, x1, x2, x3] ty (0, 0))) : w.cell? ⟨b, 0, none⟩ = some x0 ∧ w.cell? ⟨b, 1, none⟩ = some x1 ∧ w.cell? ⟨b, 2, none⟩ = some x2 ∧ w.cell? ⟨b, 3, none⟩ = some x3 :=
  ⟨cell_of_row w b 0 _ _ _ h, cell_of_row w b 1 _ _ _ h, cell_of_row w b 2 _ _ _ h, cell_of_row w b 3 _ _ _ h⟩
theorem row_keep {w w' : World} {b : Nat} {o : Obj} (h : w.heap[b]? = some o) (hb : Below w.heap.size w w') : w'.heap[b]? = some o := (hb.block b (Array.getElem?_eq_some_iff.1 h).1).trans h
theorem base_lit (w : World) : Calls Tryz.prog 83 #[.string ⟨#[47, 97, 47, 98, 47, 47]⟩] w fun e w' => e = .returned (.string ⟨#[98]⟩) ∧ Below w.heap.size w w' :=
  (base_calls ⟨#[47, 97, 47, 98, 47, 47]⟩ (by decide) w).mono fun _ _ ⟨r, ⟨he, hr⟩, hb⟩ => ⟨by rw [he, str_ext (a := r) (b := ⟨#[98]⟩) (hr.trans link_base)], hb⟩
theorem dir_lit1 (w : World) : Calls Tryz.prog 84 #[.string ⟨#[47, 97, 47, 98, 47, 47]⟩] w fun e w' => e = .returned (.string ⟨#[47, 97]⟩) ∧ w' = w :=
  (pdir_calls ⟨#[47, 97, 47, 98, 47, 47]⟩ (by decide) w).mono fun _ _ ⟨r, ⟨he, hr⟩, hb⟩ => ⟨by rw [he, str_ext (a := r) (b := ⟨#[47, 97]⟩) (hr.trans link_dir1)], hb⟩
theorem dir_lit2 (w : World) : Calls Tryz.prog 84 #[.string ⟨#[97]⟩] w fun e w' => e = .returned (.string ⟨#[46]⟩) ∧ w' = w :=
  (pdir_calls ⟨#[97]⟩ (by decide) w).mono fun _ _ ⟨r, ⟨he, hr⟩, hb⟩ => ⟨by rw [he, str_ext (a := r) (b := ⟨#[46]⟩) (hr.trans link_dir2)], hb⟩
theorem join_lit (w : World) : Calls Tryz.prog 85 #[.string ⟨#[47]⟩, .string ⟨#[97]⟩] w fun e w' => e = .returned (.string ⟨#[47, 97]⟩) ∧ w' = w :=
  (pjoin_calls ⟨#[47]⟩ ⟨#[97]⟩ (by decide) (by decide) w).mono fun _ _ ⟨r, ⟨he, hr⟩, hb⟩ => ⟨by rw [he, str_ext (a := r) (b := ⟨#[47, 97]⟩) (hr.trans (by decide))], hb⟩
set_option maxHeartbeats 4000000 in
set_option maxRecDepth 100000 in
theorem lives14_calls (w : World) :
    Calls Tryz.prog 15 #[] w fun e w' => e = .returned (.bool true) ∧ Below w.heap.size w w' := by
  go_enter Tryz.func15, Tryz.ntmps15
  go_upto_region 2 with (go_at_call 78; refine (small_mem_calls _).mono ?_; rintro _ w1 ⟨g, cap, b1, b2, b3, cur, ⟨rfl, hM⟩, hb1⟩)
  have HM := Lib.hid hM
  have hsz := hb1.size
  have hgB := hM.gB
  have hb1B := hM.B1
  have hng := hM.n1
  clear hM
  go_upto_region 4 with fail
  have hgl : g < w1.heap.size := (Array.getElem?_eq_some_iff.1 HM.out.hg).1
  have hbl : b1 < w1.heap.size := (Array.getElem?_eq_some_iff.1 HM.out.h1).1
  have c18 : w1.cell? ⟨g, 18, none⟩ = some (.slice (some ⟨b1, 0, none⟩) 1 1) := by
    rw [cell_of_row w1 g 18 _ _ _ HM.out.hg]
    have h := congrArg (fun l => l[18]?) HM.out.tk
    have h2 : (List.take ((2 + 2) * 10) cur.toList)[18]? = some (.slice (some ⟨b1, 0, none⟩) 1 1) := h.trans rfl
    rw [List.getElem?_take, if_pos (by omega)] at h2
    simpa using h2
  have f18 : w1.frozen? ⟨g, 18, none⟩ = false := frozen_of_row w1 g 18 _ _ HM.out.hg
  obtain ⟨wA, hwA⟩ : ∃ x, x = w1.alloc (.cells #[.slice (some ⟨g, 0, none⟩) 4 cap, .int .i64 0] 38) := ⟨_, rfl⟩
  have hbA : Below w.heap.size w wA := by rw [hwA]; exact below_alloc hb1 _
  have a0 : wA.cell? ⟨w1.heap.size, 0, none⟩ = some (.slice (some ⟨g, 0, none⟩) 4 cap) := by rw [hwA, World.cell?_alloc_new]; rfl
  have a18 : wA.cell? ⟨g, 18, none⟩ = some (.slice (some ⟨b1, 0, none⟩) 1 1) := by rw [hwA]; exact cell_new c18 _
  have af18 : wA.frozen? ⟨g, 18, none⟩ = false := by rw [hwA]; exact frozen_of_row _ g 18 _ _ (heap_alloc_lt HM.out.hg _)
  have HO : Hid (Own wA w.heap.size 105 2 (.slice (some ⟨b1, 0, none⟩) 1 1) [[.string ⟨#[97]⟩, .int .i64 2]]) := Lib.hid (by rw [hwA]; exact (own_entry HM.out.h1 hb1B).alloc _)
  have hsA : wA.heap.size = w1.heap.size + 1 := by rw [hwA]; simp
  have HG : Hid (wA.heap[g]? = some (.cells cur 85 (0, 0))) := Lib.hid (by rw [hwA]; exact heap_alloc_lt HM.out.hg _)
  have HX : Hid (wA.heap[w1.heap.size]? = some (.cells #[.slice (some ⟨g, 0, none⟩) 4 cap, .int .i64 0] 38 (0, 0))) := Lib.hid (by rw [hwA]; exact heap_alloc_new _ _)
  have H2 : Hid (wA.heap[b2]? = some (.cells #[.string ⟨#[98]⟩, .int .i64 3] 105 (0, 0))) := Lib.hid (by rw [hwA]; exact heap_alloc_lt HM.out.h2 _)
  have H3 : Hid (wA.heap[b3]? = some (.cells #[.int .u8 104, .int .u8 101, .int .u8 108, .int .u8 108, .int .u8 111] 5 (5, 6))) := Lib.hid (by rw [hwA]; exact heap_alloc_lt HM.out.h3 _)
  have HSA := Lib.hid hsA
  rw [← hwA]
  obtain ⟨bx, hbx⟩ : ∃ x, x = w1.heap.size := ⟨_, rfl⟩
  have HBB : Hid (b2 ≠ bx ∧ b3 ≠ bx) := Lib.hid (by have h1 := (Array.getElem?_eq_some_iff.1 HM.out.h2).1; have h2 := (Array.getElem?_eq_some_iff.1 HM.out.h3).1; omega)
  rw [← hbx] at hgl hbl a0 hsA HX HSA
  rw [← hbx]
  have hxA : bx < wA.heap.size := by omega
  have hwx : w.heap.size ≤ bx := by omega
  clear hwA hbx c18 f18 hb1 hsz hsA
  have hgx : g ≠ bx := by omega
  have HBA := Lib.hid hbA
  clear hbA
  have hn1 : some bx ≠ some b1 := fun e => by have := Option.some.inj e; omega
  have hn2 : some g ≠ some b1 := fun e => hng (Option.some.inj e)
  have hao : ∀ o : Obj, (wA.alloc o).drew.cell? ⟨bx, 0, none⟩ = some (.slice (some ⟨g, 0, none⟩) 4 cap) ∧ (wA.alloc o).drew.cell? ⟨g, 18, none⟩ = some (.slice (some ⟨b1, 0, none⟩) 1 1) ∧ (wA.alloc o).drew.frozen? ⟨g, 18, none⟩ = false := fun o =>
    ⟨cell_new a0 o, cell_new a18 o, ((below_alloc (Below.refl _ wA) o).frozen (p := ⟨g, 18, none⟩) (by dsimp only; omega)).trans af18⟩
  have ha0 : ∀ o : Obj, (wA.alloc o).cell? ⟨bx, 0, none⟩ = some (.slice (some ⟨g, 0, none⟩) 4 cap) := fun o => (hao o).1
  have ha18 : ∀ o : Obj, (wA.alloc o).cell? ⟨g, 18, none⟩ = some (.slice (some ⟨b1, 0, none⟩) 1 1) := fun o => (hao o).2.1
  have HAO := Lib.hid hao
  clear hao
  have HBX : Hid (b2 ≠ bx ∧ b3 ≠ bx) := Lib.hid ⟨HBB.out.1, HBB.out.2⟩
  have HB12 : Hid (b2 ≠ b1 ∧ b3 ≠ b1) := Lib.hid ⟨HM.out.m2, HM.out.m3⟩
  go_cut [] (fun wx => ∃ g3 c3, Hid (LinkA wx w.heap.size bx g cap g3 c3 b2 b3) ∧ Hid (Below w.heap.size w wx))
  case first =>
    go_region_law (first | (refine step_append_many (W := w) (A := some ⟨wA.heap.size, 0, none⟩) (m := 2) (c := 2) (by rfl) (.tmp 26) (.tmp 29) 83 (by rfl) elem_ent14 1 (rows := [[.string ⟨#[97]⟩, .int .i64 2]]) rfl (by simp [Act.eval]) ((HO.out.alloc _).keep (Below.refl _ _).drew) ((below_alloc HBA.out _).drew) [[.string ⟨#[108]⟩, .int .i64 4], [.string ⟨#[109]⟩, .int .i64 5]] (by simp [Act.eval]) (fun h => by cases h) rfl (fun r hr => by simp at hr; rcases hr with rfl | rfl <;> rfl) (.inr ⟨_, 0, rfl, fun j u hu => by show (wA.alloc _).cell? _ = _; rw [cell_of_row _ _ _ _ _ _ (heap_alloc_new wA _)]; simpa using hu⟩) (fun u hu => by simp at hu; rcases hu with rfl | rfl | rfl | rfl <;> rfl) (by unfold maxLen; omega) (by omega) ?_; intro v' w3 hown3 hb3 hg3 hv3; obtain ⟨g3, c3, rfl, hc3, hm3, hB3, hl3⟩ := own_ne 3 hown3 rfl (by decide); have HS3 : Hid (w3.cell? ⟨bx, 0, none⟩ = some (.slice (some ⟨g, 0, none⟩) 4 cap) ∧ w3.cell? ⟨g, 18, none⟩ = some (.slice (some ⟨b1, 0, none⟩) 1 1) ∧ w3.frozen? ⟨g, 18, none⟩ = false) := Lib.hid ⟨hg3.cell (HAO.out _).1 hn1, hg3.cell (HAO.out _).2.1 hn2, (hg3.frozen_far ⟨g, 18, none⟩ (by simp; omega) hn2).trans (HAO.out _).2.2⟩; have HF3 : Hid (∀ k, k < wA.heap.size → k ≠ b1 → w3.heap[k]? = wA.heap[k]?) := Lib.hid (fun k hk hn => (hg3.block k (by simp; omega) (fun e => hn (Option.some.inj e))).trans (Below.heap_alloc wA _ k hk)); have HO3 := Lib.hid hown3; have HB3 := Lib.hid hb3; have hv3' : g3 = b1 ∨ wA.heap.size ≤ g3 := (by simp [Value.ownBlock] at hv3; omega); clear hown3 hb3 hg3 hv3; have s0 := HS3.out.1; have s18 := HS3.out.2.1; have sf18 := HS3.out.2.2))
    all_goals go_wp2
    all_goals go_meet
    all_goals exact ⟨g3, c3, Lib.hid (linkA_made HF3.out HX.out HG.out HM.out.cs HM.out.tk HO3.out (by omega) (by omega) H2.out H3.out (by omega) HM.out.n1 HM.out.n2 HM.out.n3 (by omega) HB12.out.1 HB12.out.2), Lib.hid (HB3.out.setCell (by dsimp only; omega) _)⟩
  case rest =>
    obtain ⟨g3, c3, HL, HBL⟩ := hcut
    clear HX HG H2 H3 HSA hn1 hn2 ha0 ha18 HAO a0 a18 af18 HO hxA HBA HB12
    have hlx : bx < wc.heap.size := (Array.getElem?_eq_some_iff.1 HL.out.hx).1
    have hlg : g < wc.heap.size := by obtain ⟨_, h, -⟩ := HL.out.hg; exact (Array.getElem?_eq_some_iff.1 h).1
    have x0 := cell_of_row wc bx 0 _ _ _ HL.out.hx
    have x1 := cell_of_row wc bx 1 _ _ _ HL.out.hx
    have xf := frozen_of_row wc bx 0 _ _ HL.out.hx
    change _ = some (Value.slice (some ⟨g, 0, none⟩) 4 cap) at x0
    change _ = some (Value.int .i64 0) at x1
    have HON : Hid (Own wc w.heap.size 85 10 (.slice (some ⟨g, 0, none⟩) 4 cap) (linkRows g3 c3 b2 b3)) := Lib.hid (HL.out.own hgB HM.out.c4 HM.out.cm)
    have hg3 := HL.out.ho.lt g3 rfl
    have hc3 : Hid (3 ≤ c3) := Lib.hid (by rcases HL.out.ho.shape with ⟨h, -⟩ | ⟨_, _, h, hc, -⟩; · cases h
                                           · injection h with h1 h2 h3; subst h3; exact hc)
    go_upto_region 6 with (at_builtin; (refine wpList_append_many (W := w) (A := some ⟨wc.heap.size, 0, none⟩) (m := 2) (c := 2) (by rfl) (.tmp 34) (.tmp 37) 36 (by rfl) elem_node14 4 (rows := linkRows g3 c3 b2 b3) rfl (by simp [Act.eval]) (HON.out.alloc _) (below_alloc HBL.out _) [(nodeL ⟨#[97, 47, 98]⟩).toList, (nodeL ⟨#[109]⟩).toList] (by simp [Act.eval]) (fun h => by cases h) rfl (fun r hr => by simp at hr; rcases hr with rfl | rfl <;> rfl) (.inr ⟨_, 0, rfl, fun j u hu => by rw [cell_of_row _ _ _ _ _ _ (heap_alloc_new wc _)]; simpa [nodeL] using hu⟩) (by simp [nodeL, Value.oneCell']) (by unfold maxLen; omega) (by omega) ?_; intro v4 w4 hown4 hb4 hg4 hv4; obtain ⟨g4, c4, rfl, hc4, hm4, hB4, hl4⟩ := own_ne 6 hown4 rfl (by decide); have hX4 : w4.heap[bx]? = some (.cells #[.slice (some ⟨g, 0, none⟩) 4 cap, .int .i64 0] 38 (0, 0)) := (hg4.block bx (by simp; omega) (by simp [Value.ownBlock]; omega)).trans (heap_alloc_lt HL.out.hx _); have y0 := cell_of_row w4 bx 0 _ _ _ hX4; have yf := frozen_of_row w4 bx 0 _ _ hX4; change _ = some (Value.slice (some ⟨g, 0, none⟩) 4 cap) at y0; have HX4 := Lib.hid hX4; have hg4x : g4 = g ∨ g4 = wc.heap.size + 1 := (by simpa [Value.ownBlock] using hv4); have HO4 : Hid (Own w4 w.heap.size 85 10 (.slice (some ⟨g4, 0, none⟩) 6 c4) (linkRows g3 c3 b2 b3 ++ [(nodeL ⟨#[97, 47, 98]⟩).toList, (nodeL ⟨#[109]⟩).toList])) := Lib.hid hown4; have HB4 := Lib.hid hb4; have HE4 : Hid (Own w4 w.heap.size 105 2 (.slice (some ⟨g3, 0, none⟩) 3 c3) [[.string ⟨#[97]⟩, .int .i64 2], [.string ⟨#[108]⟩, .int .i64 4], [.string ⟨#[109]⟩, .int .i64 5]]) := Lib.hid ((HL.out.ho.alloc _).grown_ hg4 (fun k hk => by simp only [Value.ownBlock] at hk ⊢; cases hk; exact fun e => HL.out.go (Option.some.inj e))); have H24 : Hid (w4.heap[b2]? = some (.cells #[.string ⟨#[98]⟩, .int .i64 3] 105 (0, 0))) := Lib.hid ((hg4.block b2 (by simp; exact Nat.lt_succ_of_lt (Array.getElem?_eq_some_iff.1 HL.out.h2).1) (fun e => HM.out.n2 (Option.some.inj e).symm)).trans (heap_alloc_lt HL.out.h2 _)); have H34 : Hid (w4.heap[b3]? = some (.cells #[.int .u8 104, .int .u8 101, .int .u8 108, .int .u8 108, .int .u8 111] 5 (5, 6))) := Lib.hid ((hg4.block b3 (by simp; exact Nat.lt_succ_of_lt (Array.getElem?_eq_some_iff.1 HL.out.h3).1) (fun e => HM.out.n3 (Option.some.inj e).symm)).trans (heap_alloc_lt HL.out.h3 _)); clear hown4 hb4 hg4 hv4 hX4 hc4))
    obtain ⟨wB, hwB⟩ : ∃ x, x = w4.setCell ⟨bx, 0, none⟩ (.slice (some ⟨g4, 0, none⟩) 6 c4) := ⟨_, rfl⟩
    have hxB : wB.heap[bx]? = some (.cells #[.slice (some ⟨g4, 0, none⟩) 6 c4, .int .i64 0] 38 (0, 0)) := by rw [hwB]; exact heap_setCell_same w4 bx 0 _ _ _ HX4.out
    have HN : Hid (NodesAt wB (some ⟨g4, 0, none⟩) linkT.nodes) := Lib.hid (by
      rw [hwB]
      refine link_at (HO4.out.set_far (p := ⟨bx, 0, none⟩) (by simp only [Value.ownBlock]; exact fun e => by have := Option.some.inj e; omega) _) hc3.out (HE4.out.set_far (p := ⟨bx, 0, none⟩) (by simp only [Value.ownBlock]; exact fun e => HL.out.gx (Option.some.inj e)) _) ?_ ?_
      · rw [Below.heap_setCell _ _ _ _ (by dsimp only; exact HBX.out.1)]; exact H24.out
      · rw [Below.heap_setCell _ _ _ _ (by dsimp only; exact HBX.out.2)]; exact H34.out)
    have HBN : Hid (Below w.heap.size w wB) := Lib.hid (by rw [hwB]; exact HB4.out.setCell (by dsimp only; omega) _)
    rw [← hwB]
    have k0 := cell_of_row wB bx 0 _ _ _ hxB
    have k1 := cell_of_row wB bx 1 _ _ _ hxB
    change _ = some (Value.slice (some ⟨g4, 0, none⟩) 6 c4) at k0
    change _ = some (Value.int .i64 0) at k1
    clear hwB hxB y0 yf HX4 hg4x HO4 HE4 H24 H34 HB4 HL HBL hlx hlg x0 x1 xf HON hg3 hc3 HM hgB hb1B hng hbl hgl hwx hgx HBX
    go_upto_region 7 with fail
    obtain ⟨wn, hwn⟩ : ∃ x, x = wB.alloc (.cells #[.int .i64 0, .int .i64 0, .int .i64 0, .int .i64 1] 48) := ⟨_, rfl⟩
    have hal : Below wB.heap.size wB wn := by rw [hwn]; exact below_alloc (Below.refl _ _) _
    have hE : wn.heap[wB.heap.size]? = some (.cells #[.int .i64 0, .int .i64 0, .int .i64 0, .int .i64 1] 48 (0, 0)) := by rw [hwn]; exact heap_alloc_new _ _
    rw [← hwn]
    clear hwn
    replace k0 := cell_keep hal k0
    replace k1 := cell_keep hal k1
    replace HN := Lib.hid (HN.out.keep hal)
    replace HBN := Lib.hid (below_step HBN.out hal)
    obtain ⟨be, hbe⟩ : ∃ x, x = wB.heap.size := ⟨_, rfl⟩
    rw [← hbe] at hE
    rw [← hbe]
    obtain ⟨e0, e1, e2, e3⟩ := row4 hE
    clear hbe hal hE
    go_upto_region 8 with (go_at_call 17; refine (link_find_calls ⟨#[97, 47, 47, 46, 47, 98]⟩ false 2 ⟨#[98]⟩ 3 false 0 link_find1 _ _ _ HN.out).mono ?_; rintro _ wq ⟨rfl, hbq⟩; replace k0 := cell_keep hbq k0; replace k1 := cell_keep hbq k1; replace e0 := cell_keep hbq e0; replace e1 := cell_keep hbq e1; replace e2 := cell_keep hbq e2; replace e3 := cell_keep hbq e3; replace HN := Lib.hid (HN.out.keep hbq); replace HBN := Lib.hid (below_step HBN.out hbq); (try replace p1 := Lib.hid (row_keep p1.out hbq)); (try replace p2 := Lib.hid (row_keep p2.out hbq)); (try replace p3 := Lib.hid (row_keep p3.out hbq)); (try replace p6 := Lib.hid (row_keep p6.out hbq)); clear hbq)
    obtain ⟨wn, hwn⟩ : ∃ x, x = wq.alloc (.cells #[.int .i64 2, .string ⟨#[98]⟩, .int .i64 3, .bool false] 54) := ⟨_, rfl⟩
    have hal : Below wq.heap.size wq wn := by rw [hwn]; exact below_alloc (Below.refl _ _) _
    have p1 : Hid (wn.heap[wq.heap.size]? = some (.cells #[.int .i64 2, .string ⟨#[98]⟩, .int .i64 3, .bool false] 54 (0, 0))) := Lib.hid (by rw [hwn]; exact heap_alloc_new _ _)
    rw [← hwn]
    clear hwn
    replace k0 := cell_keep hal k0
    replace k1 := cell_keep hal k1
    replace e0 := cell_keep hal e0
    replace e1 := cell_keep hal e1
    replace e2 := cell_keep hal e2
    replace e3 := cell_keep hal e3
    replace HN := Lib.hid (HN.out.keep hal)
    replace HBN := Lib.hid (below_step HBN.out hal)
    skip
    obtain ⟨bq, hbq⟩ : ∃ x, x = wq.heap.size := ⟨_, rfl⟩
    rw [← hbq] at p1
    rw [← hbq]
    clear hbq hal
    go_upto_region 9 with (go_at_call 17; refine (link_find_calls ⟨#[108]⟩ true 2 ⟨#[98]⟩ 3 false 0 link_find2 _ _ _ HN.out).mono ?_; rintro _ wq ⟨rfl, hbq⟩; replace k0 := cell_keep hbq k0; replace k1 := cell_keep hbq k1; replace e0 := cell_keep hbq e0; replace e1 := cell_keep hbq e1; replace e2 := cell_keep hbq e2; replace e3 := cell_keep hbq e3; replace HN := Lib.hid (HN.out.keep hbq); replace HBN := Lib.hid (below_step HBN.out hbq); (try replace p1 := Lib.hid (row_keep p1.out hbq)); (try replace p2 := Lib.hid (row_keep p2.out hbq)); (try replace p3 := Lib.hid (row_keep p3.out hbq)); (try replace p6 := Lib.hid (row_keep p6.out hbq)); clear hbq)
    obtain ⟨wn, hwn⟩ : ∃ x, x = wq.alloc (.cells #[.int .i64 2, .string ⟨#[98]⟩, .int .i64 3, .bool false] 54) := ⟨_, rfl⟩
    have hal : Below wq.heap.size wq wn := by rw [hwn]; exact below_alloc (Below.refl _ _) _
    have p2 : Hid (wn.heap[wq.heap.size]? = some (.cells #[.int .i64 2, .string ⟨#[98]⟩, .int .i64 3, .bool false] 54 (0, 0))) := Lib.hid (by rw [hwn]; exact heap_alloc_new _ _)
    rw [← hwn]
    clear hwn
    replace k0 := cell_keep hal k0
    replace k1 := cell_keep hal k1
    replace e0 := cell_keep hal e0
    replace e1 := cell_keep hal e1
    replace e2 := cell_keep hal e2
    replace e3 := cell_keep hal e3
    replace HN := Lib.hid (HN.out.keep hal)
    replace HBN := Lib.hid (below_step HBN.out hal)
    replace p1 := Lib.hid (row_keep p1.out hal)
    obtain ⟨bq, hbq⟩ : ∃ x, x = wq.heap.size := ⟨_, rfl⟩
    rw [← hbq] at p2
    rw [← hbq]
    clear hbq hal
    go_upto_region 10 with (go_at_call 17; refine (link_find_calls ⟨#[108]⟩ false 1 ⟨#[108]⟩ 4 false 0 link_find3 _ _ _ HN.out).mono ?_; rintro _ wq ⟨rfl, hbq⟩; replace k0 := cell_keep hbq k0; replace k1 := cell_keep hbq k1; replace e0 := cell_keep hbq e0; replace e1 := cell_keep hbq e1; replace e2 := cell_keep hbq e2; replace e3 := cell_keep hbq e3; replace HN := Lib.hid (HN.out.keep hbq); replace HBN := Lib.hid (below_step HBN.out hbq); (try replace p1 := Lib.hid (row_keep p1.out hbq)); (try replace p2 := Lib.hid (row_keep p2.out hbq)); (try replace p3 := Lib.hid (row_keep p3.out hbq)); (try replace p6 := Lib.hid (row_keep p6.out hbq)); clear hbq)
    obtain ⟨wn, hwn⟩ : ∃ x, x = wq.alloc (.cells #[.int .i64 1, .string ⟨#[108]⟩, .int .i64 4, .bool false] 54) := ⟨_, rfl⟩
    have hal : Below wq.heap.size wq wn := by rw [hwn]; exact below_alloc (Below.refl _ _) _
    have p3 : Hid (wn.heap[wq.heap.size]? = some (.cells #[.int .i64 1, .string ⟨#[108]⟩, .int .i64 4, .bool false] 54 (0, 0))) := Lib.hid (by rw [hwn]; exact heap_alloc_new _ _)
    rw [← hwn]
    clear hwn
    replace k0 := cell_keep hal k0
    replace k1 := cell_keep hal k1
    replace e0 := cell_keep hal e0
    replace e1 := cell_keep hal e1
    replace e2 := cell_keep hal e2
    replace e3 := cell_keep hal e3
    replace HN := Lib.hid (HN.out.keep hal)
    replace HBN := Lib.hid (below_step HBN.out hal)
    (replace p1 := Lib.hid (row_keep p1.out hal); replace p2 := Lib.hid (row_keep p2.out hal))
    obtain ⟨bq, hbq⟩ : ∃ x, x = wq.heap.size := ⟨_, rfl⟩
    rw [← hbq] at p3
    rw [← hbq]
    clear hbq hal
    go_upto_region 11 with (go_at_call 17; refine (link_find_calls ⟨#[109, 47, 120]⟩ false 0 ⟨#[]⟩ 0 false 12 link_find4 _ _ _ HN.out).mono ?_; rintro _ wq ⟨rfl, hbq⟩; replace k0 := cell_keep hbq k0; replace k1 := cell_keep hbq k1; replace e0 := cell_keep hbq e0; replace e1 := cell_keep hbq e1; replace e2 := cell_keep hbq e2; replace e3 := cell_keep hbq e3; replace HN := Lib.hid (HN.out.keep hbq); replace HBN := Lib.hid (below_step HBN.out hbq); (try replace p1 := Lib.hid (row_keep p1.out hbq)); (try replace p2 := Lib.hid (row_keep p2.out hbq)); (try replace p3 := Lib.hid (row_keep p3.out hbq)); (try replace p6 := Lib.hid (row_keep p6.out hbq)); clear hbq)
    obtain ⟨wn, hwn⟩ : ∃ x, x = wq.alloc (.cells #[.int .i64 0, .string ⟨#[]⟩, .int .i64 0, .bool false] 54) := ⟨_, rfl⟩
    have hal : Below wq.heap.size wq wn := by rw [hwn]; exact below_alloc (Below.refl _ _) _
    have p4 : Hid (wn.heap[wq.heap.size]? = some (.cells #[.int .i64 0, .string ⟨#[]⟩, .int .i64 0, .bool false] 54 (0, 0))) := Lib.hid (by rw [hwn]; exact heap_alloc_new _ _)
    rw [← hwn]
    clear hwn
    replace k0 := cell_keep hal k0
    replace k1 := cell_keep hal k1
    replace e0 := cell_keep hal e0
    replace e1 := cell_keep hal e1
    replace e2 := cell_keep hal e2
    replace e3 := cell_keep hal e3
    replace HN := Lib.hid (HN.out.keep hal)
    replace HBN := Lib.hid (below_step HBN.out hal)
    (replace p1 := Lib.hid (row_keep p1.out hal); replace p2 := Lib.hid (row_keep p2.out hal); replace p3 := Lib.hid (row_keep p3.out hal))
    obtain ⟨bq, hbq⟩ : ∃ x, x = wq.heap.size := ⟨_, rfl⟩
    rw [← hbq] at p4
    rw [← hbq]
    clear hbq hal
    go_upto_region 12 with (go_at_call 17; refine (link_find_calls ⟨#[97, 47, 98, 47]⟩ false 0 ⟨#[]⟩ 0 false 9 link_find5 _ _ _ HN.out).mono ?_; rintro _ wq ⟨rfl, hbq⟩; replace k0 := cell_keep hbq k0; replace k1 := cell_keep hbq k1; replace e0 := cell_keep hbq e0; replace e1 := cell_keep hbq e1; replace e2 := cell_keep hbq e2; replace e3 := cell_keep hbq e3; replace HN := Lib.hid (HN.out.keep hbq); replace HBN := Lib.hid (below_step HBN.out hbq); (try replace p1 := Lib.hid (row_keep p1.out hbq)); (try replace p2 := Lib.hid (row_keep p2.out hbq)); (try replace p3 := Lib.hid (row_keep p3.out hbq)); (try replace p6 := Lib.hid (row_keep p6.out hbq)); clear hbq)
    obtain ⟨wn, hwn⟩ : ∃ x, x = wq.alloc (.cells #[.int .i64 0, .string ⟨#[]⟩, .int .i64 0, .bool false] 54) := ⟨_, rfl⟩
    have hal : Below wq.heap.size wq wn := by rw [hwn]; exact below_alloc (Below.refl _ _) _
    have p5 : Hid (wn.heap[wq.heap.size]? = some (.cells #[.int .i64 0, .string ⟨#[]⟩, .int .i64 0, .bool false] 54 (0, 0))) := Lib.hid (by rw [hwn]; exact heap_alloc_new _ _)
    rw [← hwn]
    clear hwn
    replace k0 := cell_keep hal k0
    replace k1 := cell_keep hal k1
    replace e0 := cell_keep hal e0
    replace e1 := cell_keep hal e1
    replace e2 := cell_keep hal e2
    replace e3 := cell_keep hal e3
    replace HN := Lib.hid (HN.out.keep hal)
    replace HBN := Lib.hid (below_step HBN.out hal)
    (replace p1 := Lib.hid (row_keep p1.out hal); replace p2 := Lib.hid (row_keep p2.out hal); replace p3 := Lib.hid (row_keep p3.out hal))
    obtain ⟨bq, hbq⟩ : ∃ x, x = wq.heap.size := ⟨_, rfl⟩
    rw [← hbq] at p5
    rw [← hbq]
    clear hbq hal
    go_upto_region 13 with (go_at_call 17; refine (link_find_calls ⟨#[97, 47, 46, 46]⟩ false 1 ⟨#[]⟩ 1 false 0 link_find6 _ _ _ HN.out).mono ?_; rintro _ wq ⟨rfl, hbq⟩; replace k0 := cell_keep hbq k0; replace k1 := cell_keep hbq k1; replace e0 := cell_keep hbq e0; replace e1 := cell_keep hbq e1; replace e2 := cell_keep hbq e2; replace e3 := cell_keep hbq e3; replace HN := Lib.hid (HN.out.keep hbq); replace HBN := Lib.hid (below_step HBN.out hbq); (try replace p1 := Lib.hid (row_keep p1.out hbq)); (try replace p2 := Lib.hid (row_keep p2.out hbq)); (try replace p3 := Lib.hid (row_keep p3.out hbq)); (try replace p6 := Lib.hid (row_keep p6.out hbq)); clear hbq)
    obtain ⟨wn, hwn⟩ : ∃ x, x = wq.alloc (.cells #[.int .i64 1, .string ⟨#[]⟩, .int .i64 1, .bool false] 54) := ⟨_, rfl⟩
    have hal : Below wq.heap.size wq wn := by rw [hwn]; exact below_alloc (Below.refl _ _) _
    have p6 : Hid (wn.heap[wq.heap.size]? = some (.cells #[.int .i64 1, .string ⟨#[]⟩, .int .i64 1, .bool false] 54 (0, 0))) := Lib.hid (by rw [hwn]; exact heap_alloc_new _ _)
    rw [← hwn]
    clear hwn
    replace k0 := cell_keep hal k0
    replace k1 := cell_keep hal k1
    replace e0 := cell_keep hal e0
    replace e1 := cell_keep hal e1
    replace e2 := cell_keep hal e2
    replace e3 := cell_keep hal e3
    replace HN := Lib.hid (HN.out.keep hal)
    replace HBN := Lib.hid (below_step HBN.out hal)
    (replace p1 := Lib.hid (row_keep p1.out hal); replace p2 := Lib.hid (row_keep p2.out hal); replace p3 := Lib.hid (row_keep p3.out hal))
    obtain ⟨bq, hbq⟩ : ∃ x, x = wq.heap.size := ⟨_, rfl⟩
    rw [← hbq] at p6
    rw [← hbq]
    clear hbq hal
    obtain ⟨a0, a1, a2, a3⟩ := row4 p1.out
    obtain ⟨c0, c1, c2, c3⟩ := row4 p2.out
    obtain ⟨d0, d1, d2, d3⟩ := row4 p3.out
    obtain ⟨f0, f1, f2, f3⟩ := row4 p6.out
    clear p1 p2 p3 p4 p5 p6 k0 k1 e0 e1 e2 e3
    go_wp2_with (first
      | (go_at_call 85; refine (join_lit _).mono ?_; rintro _ w9 ⟨rfl, hw9⟩; obtain rfl := hw9.symm)
      | (go_at_call 84; (with_reducible refine (dir_lit1 _).mono ?_); rintro _ w9 ⟨rfl, hw9⟩; obtain rfl := hw9.symm)
      | (go_at_call 84; (with_reducible refine (dir_lit2 _).mono ?_); rintro _ w9 ⟨rfl, hw9⟩; obtain rfl := hw9.symm)
      | (go_at_call 83; refine (base_lit _).mono ?_; rintro _ w9 ⟨rfl, hb9⟩; replace HBN := Lib.hid (below_step HBN.out hb9); clear hb9))
    go_ret
    exact ⟨rfl, HBN.out⟩
end Go.Proofs.YtdidhelkmnkhcaaGreatDoor
