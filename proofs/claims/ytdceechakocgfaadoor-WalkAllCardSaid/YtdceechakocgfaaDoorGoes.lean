/- paths.goes, paths.Bad, paths.Join. -/
import Derived.Test.YtdceechakocgfaaDoorParts
import Derived.Test.YtdceechakocgfaaDoorM2
import Derived.Outline
namespace Go.Proofs.YtdceechakocgfaaDoor
open Go.RowKit
attribute [local go_sem] Later.cell_eq
/-- A slice that reads as texts, none of them in block X. -/
def StrList (w : World) (X : Nat) (v : Value) (l : List (List UInt8)) : Prop :=
  ∃ (xs : List ByteArray) (A : Option Addr) (c : Nat), v = .slice A xs.length c ∧ xs.length ≤ c ∧ (A = none → c = 0) ∧ xs.map (·.data.toList) = l ∧
    (xs = [] ∧ A = none ∨ ∃ b o, A = some ⟨b, o, none⟩ ∧ b ≠ X ∧ b < w.heap.size ∧ ∀ (k : Nat) x, xs[k]? = some x → w.cell? ⟨b, o + k, none⟩ = some (.string x))
theorem StrList.nil (w : World) (X : Nat) : StrList w X (.slice none 0 0) [] := ⟨[], none, 0, rfl, Nat.le_refl _, fun _ => rfl, rfl, .inl ⟨rfl, rfl⟩⟩
theorem StrList.keep {w w' : World} {X : Nat} {v : Value} {l : List (List UInt8)} (h : StrList w X v l) (hb : Below w.heap.size w w') : StrList w' X v l := by
  obtain ⟨xs, A, c, h1, h2, h3, h4, h5⟩ := h
  refine ⟨xs, A, c, h1, h2, h3, h4, ?_⟩
  rcases h5 with h5 | ⟨b, o, h6, h7, h8, h9⟩
  · exact .inl h5
  · exact .inr ⟨b, o, h6, h7, Nat.lt_of_lt_of_le h8 hb.size, fun k x hk => cell_keep hb (h9 k x hk)⟩
theorem StrList.far {w : World} {X : Nat} {v : Value} {l : List (List UInt8)} (h : StrList w X v l) (o : Nat) (u : Value) : StrList (w.setCell ⟨X, o, none⟩ u) X v l := by
  obtain ⟨xs, A, c, h1, h2, h3, h4, h5⟩ := h
  refine ⟨xs, A, c, h1, h2, h3, h4, ?_⟩
  rcases h5 with h5 | ⟨b, o', h6, h7, h8, h9⟩
  · exact .inl h5
  · exact .inr ⟨b, o', h6, h7, by simpa [World.setCell] using h8, fun k x hk => cell_set (h9 k x hk) h7⟩
theorem own_list {w : World} {B X : Nat} {v : Value} {l : List (List UInt8)} (h : OwnStr w B v l) (hX : X < B) : StrList w X v l := by
  obtain ⟨xs, h1, h2⟩ := h
  rcases h1.shape with ⟨rfl, h4⟩ | ⟨g, c, rfl, h4, h5, h6, h7⟩
  · have hx : xs = [] := by simpa using h4
    subst hx
    exact ⟨[], none, 0, rfl, Nat.le_refl _, fun _ => rfl, h2, .inl ⟨rfl, rfl⟩⟩
  · refine ⟨xs, some ⟨g, 0, none⟩, c, by simp, by simpa using h4, fun h => (by cases h), h2, .inr ⟨g, 0, rfl, by omega, h7, fun k x hk => ?_⟩⟩
    have := h1.cell (i := k) (r := [Value.string x]) (by simp [hk]) (j := 0) rfl
    simpa using this
theorem own_slice {w : World} {B : Nat} {e : TypeId} {size : Nat} {v : Value} {rows : List (List Value)} (h : Own w B e size v rows) : ∃ A n c, v = .slice A n c := by
  rcases h.shape with ⟨h, -⟩ | ⟨g, c, h, -⟩
  · exact ⟨_, _, _, h⟩
  · exact ⟨_, _, _, h⟩
theorem flat_row (xs : List ByteArray) : (xs.map fun x => [Value.string x]).flatten = xs.map Value.string := flat_single xs
/-- A path's way, in a block of its own. -/
def WayRow (w : World) (bw : Nat) (at_ : Int) (v : Value) (dirs : Bool) (hops : Int) : Prop := w.heap[bw]? = some (.cells #[.int .i64 at_, v, .bool dirs, .int .i64 hops] 87 (0, 0))
namespace WayRow
variable {w w' : World} {bw : Nat} {at_ : Int} {v : Value} {dirs : Bool} {hops : Int}
theorem lt (h : WayRow w bw at_ v dirs hops) : bw < w.heap.size := (Array.getElem?_eq_some_iff.1 h).1
theorem same (h : WayRow w bw at_ v dirs hops) (e : w'.heap[bw]? = w.heap[bw]?) : WayRow w' bw at_ v dirs hops := e.trans h
theorem keep (h : WayRow w bw at_ v dirs hops) (hb : Below w.heap.size w w') : WayRow w' bw at_ v dirs hops := (hb.block bw h.lt).trans h
theorem grown (h : WayRow w bw at_ v dirs hops) {r : Option Nat} (hg : w.grownBy w' r) (hr : some bw ≠ r) : WayRow w' bw at_ v dirs hops := (hg.block bw h.lt hr).trans h
theorem c0 (h : WayRow w bw at_ v dirs hops) : w.cell? ⟨bw, 0, none⟩ = some (.int .i64 at_) := cell_of_row w bw 0 _ _ _ h
theorem c1 (h : WayRow w bw at_ v dirs hops) : w.cell? ⟨bw, 1, none⟩ = some v := cell_of_row w bw 1 _ _ _ h
theorem c2 (h : WayRow w bw at_ v dirs hops) : w.cell? ⟨bw, 2, none⟩ = some (.bool dirs) := cell_of_row w bw 2 _ _ _ h
theorem c3 (h : WayRow w bw at_ v dirs hops) : w.cell? ⟨bw, 3, none⟩ = some (.int .i64 hops) := cell_of_row w bw 3 _ _ _ h
theorem fr (h : WayRow w bw at_ v dirs hops) (i : Nat) : w.frozen? ⟨bw, i, none⟩ = false := frozen_of_row w bw i _ _ h
theorem s0 (h : WayRow w bw at_ v dirs hops) (x : Int) : WayRow (w.setCell ⟨bw, 0, none⟩ (.int .i64 x)) bw x v dirs hops := heap_setCell_same w bw 0 _ _ _ h
theorem s1 (h : WayRow w bw at_ v dirs hops) (x : Value) : WayRow (w.setCell ⟨bw, 1, none⟩ x) bw at_ x dirs hops := heap_setCell_same w bw 1 _ _ _ h
theorem s2 (h : WayRow w bw at_ v dirs hops) (x : Bool) : WayRow (w.setCell ⟨bw, 2, none⟩ (.bool x)) bw at_ v x hops := heap_setCell_same w bw 2 _ _ _ h
theorem s3 (h : WayRow w bw at_ v dirs hops) (x : Int) : WayRow (w.setCell ⟨bw, 3, none⟩ (.int .i64 x)) bw at_ v dirs x := heap_setCell_same w bw 3 _ _ _ h
end WayRow
theorem grown_refl (w : World) (r : Option Nat) : w.grownBy w r := ⟨rfl, rfl, rfl, Nat.le_refl _, fun _ _ _ => rfl⟩
theorem grown_trans {a b c : World} {r : Option Nat} (h : a.grownBy b r) (k : b.grownBy c r) : a.grownBy c r := ⟨k.os.trans h.os, k.tape.trans h.tape, k.output.trans h.output, Nat.le_trans h.size k.size, fun i hi hn => (k.block i (Nat.lt_of_lt_of_le hi h.size) hn).trans (h.block i hi hn)⟩
theorem grown_below {a b : World} (h : Below a.heap.size a b) (r : Option Nat) : a.grownBy b r := ⟨h.os, h.tape, h.output, h.size, fun i hi _ => h.block i hi⟩
theorem grown_set (w : World) (bw o : Nat) (u : Value) : w.grownBy (w.setCell ⟨bw, o, none⟩ u) (some bw) := ⟨rfl, rfl, rfl, Nat.le_of_eq (by simp [World.setCell]), fun k _ hn => Below.heap_setCell w _ u k (fun e => hn (by rw [e]))⟩
theorem grown_drew (w : World) (r : Option Nat) : w.grownBy w.drew r := ⟨rfl, rfl, rfl, Nat.le_refl _, fun _ _ _ => rfl⟩
theorem first_byte (p : ByteArray) (h : 0 < p.size) : p.data.toList.head? = some (p[0]'h) := by
  rw [List.head?_eq_getElem?, Array.getElem?_toList, Array.getElem?_eq_getElem (by exact h)]; rfl
theorem first_slash (p : ByteArray) (h : 0 < p.size) (a b : Int) : (if p.data.toList.head? = some 47 then a else b) = if (((p[0]'h).toNat : Int) == 47) = true then a else b := by
  rw [first_byte p h]
  by_cases e : p[0]'h = 47
  · rw [if_pos (by rw [e]), if_pos (by rw [e]; rfl)]
  · rw [if_neg (by simpa using e), if_neg]
    intro hh
    have h1 : (((p[0]'h).toNat : Int) = 47) := by simpa using hh
    exact e (UInt8.toNat_inj.1 (by show _ = 47; omega))
set_option maxHeartbeats 1000000 in
set_option maxRecDepth 100000 in
theorem goes_calls (p : ByteArray) (hp1 : 0 < p.size) (hp : p.size ≤ 1000000) (bw : Nat) (at_ : Int) (v : Value) (rest : List (List UInt8)) (hrl : rest.length ≤ 1000000) (dirs : Bool) (hops : Int) (w : World)
    (hrow : WayRow w bw at_ v dirs hops) (hv : StrList w bw v rest) :
    Calls Tryd.prog 39 #[.pointer (some ⟨bw, 0, none⟩), .string p] w fun e w' => ∃ v', (e = .returned (.tuple #[]) ∧ WayRow w' bw (if p.data.toList.head? = some 47 then 1 else at_) v' dirs hops ∧ StrList w' bw v' (partsOf p.data.toList ++ rest)) ∧ w.grownBy w' (some bw) := by
  have HPL : Hid ((partsOf p.data.toList).length ≤ 1000001) := Lib.hid (by
    unfold partsOf
    refine Nat.le_trans (List.length_filter_le _ _) ?_
    have := count_le_size p
    rw [pieces_length]; omega)
  obtain ⟨at1, ha1⟩ : ∃ x : Int, x = if p.data.toList.head? = some 47 then 1 else at_ := ⟨_, rfl⟩
  rw [← ha1]
  rw [first_slash p hp1] at ha1
  have k0 := hrow.c0
  have f0 := hrow.fr 0
  have hbw := hrow.lt
  have HROW := Lib.hid hrow
  have HV := Lib.hid hv
  clear hrow hv
  cases h47 : (((p[0]'hp1).toNat : Int) == 47) with
  | true =>
    rw [h47, if_pos rfl] at ha1
    go_enter Tryd.func39, Tryd.ntmps39
    go_wp2
    obtain ⟨w1, hw1⟩ : ∃ x, x = w.setCell ⟨bw, 0, none⟩ (.int .i64 1) := ⟨_, rfl⟩
    rw [← hw1]
    have HR1 : Hid (WayRow w1 bw at1 v dirs hops) := Lib.hid (by rw [hw1, ha1]; exact HROW.out.s0 1)
    have HV1 : Hid (StrList w1 bw v rest) := Lib.hid (by rw [hw1]; exact HV.out.far 0 _)
    have HG1 : Hid (w.grownBy w1 (some bw)) := Lib.hid (by rw [hw1]; exact grown_set w bw 0 _)
    clear hw1 k0 f0 ha1 HROW HV hbw
    have hbl : bw < w1.heap.size := HR1.out.lt
    have k1 := HR1.out.c1
    obtain ⟨xs, A, c, rfl, hc, hA0, hx, hsrc⟩ := HV1.out
    have HC := Lib.hid hc
    have HX := Lib.hid hx
    have HS := Lib.hid hsrc
    have hxl : xs.length ≤ 1000000 := (by rw [← hx, List.length_map] at hrl; exact hrl)
    clear hc hx hsrc
    go_region_law (first
      | (go_simp; go_at_call 46; refine (parts_calls p hp _).mono ?_; rintro _ w2 ⟨vp, ⟨rfl, ys, hown, hys⟩, hb2⟩
         have hys' := hys
         have hyl : ys.length ≤ 1000001 := (by rw [← List.length_map (f := fun x : ByteArray => x.data.toList), hys]; exact HPL.out)
         have HY := Lib.hid hys
         have HO := Lib.hid hown
         have HB2 := Lib.hid hb2
         have k2 := cell_keep hb2 (show w1.drew.cell? ⟨bw, 1, none⟩ = _ from k1)
         have HR2 : Hid (WayRow w2 bw at1 (.slice A xs.length c) dirs hops) := Lib.hid ((HR1.out.same (w' := w1.drew) rfl).keep hb2)
         have HS2 : Hid (SrcAt w2 A (xs.map fun x => [Value.string x])) := Lib.hid (by
           rcases HS.out with ⟨h1, h2⟩ | ⟨b, o, h1, h2, h3, h4⟩
           · exact .inl ⟨by rw [h1]; rfl, h2⟩
           · refine .inr ⟨b, o, h1, fun j u hu => ?_⟩
             rw [flat_single, List.getElem?_map] at hu
             obtain ⟨x, hx, rfl⟩ := Option.map_eq_some_iff.1 hu
             exact cell_keep hb2 (show w1.drew.cell? _ = _ from h4 j x hx))
         clear hown hys hb2 hys')
      | (refine step_append_many rfl (.tmp 12) (.tmp 16) 32 rfl elem_str ys.length (List.length_map _) (by simp [Act.eval]) HO.out HB2.out (xs.map fun x => [Value.string x]) (by simp [Act.eval]) hA0 (List.length_map _) (fun r hr => by obtain ⟨x, -, rfl⟩ := List.mem_map.1 hr; rfl) HS2.out (fun u hu => by rw [flat_single] at hu; obtain ⟨x, -, rfl⟩ := List.mem_map.1 hu; rfl) (by unfold maxLen; omega) (by omega) ?_
         intro v' w3 hown3 hb3 hg3 hv3
         have hne : some bw ≠ vp.ownBlock := fun e => absurd (HO.out.lt bw e.symm).1 (Nat.not_le_of_lt hbl)
         obtain ⟨A3, n3, c3, rfl⟩ := own_slice hown3
         have HR3 : Hid (WayRow w3 bw at1 (.slice A xs.length c) dirs hops) := Lib.hid (HR2.out.grown hg3 hne)
         have k3 := HR3.out.c1
         have f3 := HR3.out.fr 1
         have HO3 := Lib.hid hown3
         have HB3 := Lib.hid hb3
         clear hown3 hb3 hg3 hv3 hne))
    all_goals go_wp2
    all_goals refine bodyPost_end (v := .tuple #[]) (by kernel_rfl) rfl ?_
    all_goals exact ⟨_, ⟨rfl, HR3.out.s1 _, (own_list (B := w1.drew.heap.size) ⟨ys ++ xs, by rw [List.map_append]; exact HO3.out, by rw [List.map_append, HY.out, HX.out]⟩ hbl).far 1 _⟩, grown_trans HG1.out (grown_trans (grown_drew w1 _) (grown_trans (grown_below HB3.out _) (grown_set w3 bw 1 _)))⟩
  | false =>
    rw [h47, if_neg (by simp)] at ha1
    go_enter Tryd.func39, Tryd.ntmps39
    go_wp2
    obtain ⟨w1, hw1⟩ : ∃ x, x = w := ⟨_, rfl⟩
    rw [← hw1]
    have HR1 : Hid (WayRow w1 bw at1 v dirs hops) := Lib.hid (by rw [hw1, ha1]; exact HROW.out)
    have HV1 : Hid (StrList w1 bw v rest) := Lib.hid (by rw [hw1]; exact HV.out)
    have HG1 : Hid (w.grownBy w1 (some bw)) := Lib.hid (by rw [hw1]; exact grown_refl _ _)
    clear hw1 k0 f0 ha1 HROW HV hbw
    have hbl : bw < w1.heap.size := HR1.out.lt
    have k1 := HR1.out.c1
    obtain ⟨xs, A, c, rfl, hc, hA0, hx, hsrc⟩ := HV1.out
    have HC := Lib.hid hc
    have HX := Lib.hid hx
    have HS := Lib.hid hsrc
    have hxl : xs.length ≤ 1000000 := (by rw [← hx, List.length_map] at hrl; exact hrl)
    clear hc hx hsrc
    go_region_law (first
      | (go_simp; go_at_call 46; refine (parts_calls p hp _).mono ?_; rintro _ w2 ⟨vp, ⟨rfl, ys, hown, hys⟩, hb2⟩
         have hys' := hys
         have hyl : ys.length ≤ 1000001 := (by rw [← List.length_map (f := fun x : ByteArray => x.data.toList), hys]; exact HPL.out)
         have HY := Lib.hid hys
         have HO := Lib.hid hown
         have HB2 := Lib.hid hb2
         have k2 := cell_keep hb2 (show w1.drew.cell? ⟨bw, 1, none⟩ = _ from k1)
         have HR2 : Hid (WayRow w2 bw at1 (.slice A xs.length c) dirs hops) := Lib.hid ((HR1.out.same (w' := w1.drew) rfl).keep hb2)
         have HS2 : Hid (SrcAt w2 A (xs.map fun x => [Value.string x])) := Lib.hid (by
           rcases HS.out with ⟨h1, h2⟩ | ⟨b, o, h1, h2, h3, h4⟩
           · exact .inl ⟨by rw [h1]; rfl, h2⟩
           · refine .inr ⟨b, o, h1, fun j u hu => ?_⟩
             rw [flat_single, List.getElem?_map] at hu
             obtain ⟨x, hx, rfl⟩ := Option.map_eq_some_iff.1 hu
             exact cell_keep hb2 (show w1.drew.cell? _ = _ from h4 j x hx))
         clear hown hys hb2 hys')
      | (refine step_append_many rfl (.tmp 12) (.tmp 16) 32 rfl elem_str ys.length (List.length_map _) (by simp [Act.eval]) HO.out HB2.out (xs.map fun x => [Value.string x]) (by simp [Act.eval]) hA0 (List.length_map _) (fun r hr => by obtain ⟨x, -, rfl⟩ := List.mem_map.1 hr; rfl) HS2.out (fun u hu => by rw [flat_single] at hu; obtain ⟨x, -, rfl⟩ := List.mem_map.1 hu; rfl) (by unfold maxLen; omega) (by omega) ?_
         intro v' w3 hown3 hb3 hg3 hv3
         have hne : some bw ≠ vp.ownBlock := fun e => absurd (HO.out.lt bw e.symm).1 (Nat.not_le_of_lt hbl)
         obtain ⟨A3, n3, c3, rfl⟩ := own_slice hown3
         have HR3 : Hid (WayRow w3 bw at1 (.slice A xs.length c) dirs hops) := Lib.hid (HR2.out.grown hg3 hne)
         have k3 := HR3.out.c1
         have f3 := HR3.out.fr 1
         have HO3 := Lib.hid hown3
         have HB3 := Lib.hid hb3
         clear hown3 hb3 hg3 hv3 hne))
    all_goals go_wp2
    all_goals refine bodyPost_end (v := .tuple #[]) (by kernel_rfl) rfl ?_
    all_goals exact ⟨_, ⟨rfl, HR3.out.s1 _, (own_list (B := w1.drew.heap.size) ⟨ys ++ xs, by rw [List.map_append]; exact HO3.out, by rw [List.map_append, HY.out, HX.out]⟩ hbl).far 1 _⟩, grown_trans HG1.out (grown_trans (grown_drew w1 _) (grown_trans (grown_below HB3.out _) (grown_set w3 bw 1 _)))⟩
/-- Has a path too many bytes, or a byte 0? -/
def badS (s : List UInt8) : Bool := decide (1024 < s.length) || decide (0 ≤ Lib.indexByte s 0)
theorem bad_calls (p : ByteArray) (w : World) :
    Calls Tryd.prog 38 #[.string p] w fun e w' => e = .returned (.bool (badS p.data.toList)) ∧ w' = w := by
  have hl : p.data.toList.length = p.size := Array.length_toList
  unfold badS
  rw [hl]
  cases hb : decide (1024 < p.size) with
  | true =>
    have h1 : decide ((1024 : Int) < (p.size : Int)) = true := decide_eq_true (by have := of_decide_eq_true hb; omega)
    go_enter Tryd.func38, Tryd.ntmps38
    go_wp2
    go_ret
    exact ⟨rfl, rfl⟩
  | false =>
    have h1 : decide ((1024 : Int) < (p.size : Int)) = false := decide_eq_false (by have := of_decide_eq_false hb; omega)
    rw [Bool.false_or]
    go_enter Tryd.func38, Tryd.ntmps38
    go_wp2_with (go_at_call 35; refine (Tryd.strings_Contains_one p 0 _).mono ?_; rintro _ w1 ⟨rfl, hw1⟩; obtain rfl : w = w1 := hw1.symm)
    go_ret
    exact ⟨rfl, rfl⟩
def slashEnd (s : List UInt8) : Bool := Lib.hasSuffix s [47]
def joinS (p n : List UInt8) : List UInt8 := if p = [] ∨ slashEnd p = true then p ++ n else p ++ 47 :: n
theorem pjoin_calls (p n : ByteArray) (hp : p.size ≤ 1000000) (hn : n.size ≤ 1000000) (w : World) :
    Calls Tryd.prog 30 #[.string p, .string n] w fun e w' => ∃ r : ByteArray, (e = .returned (.string r) ∧ r.data.toList = joinS p.data.toList n.data.toList) ∧ w' = w := by
  have hpl : p.data.toList.length = p.size := Array.length_toList
  have hz := toList_nil p
  unfold joinS
  by_cases h : p.size = 0
  · have h1 : p.toList = [] := hz.mpr h
    have HC := Lib.hid (show p.data.toList = [] ∨ slashEnd p.data.toList = true from .inl (List.eq_nil_of_length_eq_zero (by omega)))
    rw [if_pos HC.out]
    clear HC
    go_enter Tryd.func30, Tryd.ntmps30
    go_wp2
    go_ret
    first | exact ⟨_, ⟨rfl, by simp⟩, rfl⟩ | exact ⟨_, rfl, by simp⟩ | exact ⟨⟨_, rfl, by simp⟩, rfl⟩
  · have h1 : ¬ p.toList = [] := fun e => h (hz.mp e)
    have h2 : p.toList.isEmpty = false := by simpa using h1
    have hne : ¬ p.data.toList = [] := fun e => h (by rw [← hpl, e]; rfl)
    cases hs : Lib.hasSuffix p.data.toList [47] with
    | true =>
      have HC := Lib.hid (show p.data.toList = [] ∨ slashEnd p.data.toList = true from .inr hs)
      have hs' : Lib.hasSuffix p.data.toList (⟨#[47]⟩ : ByteArray).data.toList = true := hs
      clear hz hne hs
      rw [if_pos HC.out]
      clear HC
      go_enter Tryd.func30, Tryd.ntmps30
      go_wp2_with (go_at_call 40; refine (Tryd.strings_HasSuffix p ⟨#[47]⟩ _ (by omega)).mono ?_; rintro _ w1 ⟨rfl, hw1⟩; obtain rfl : w = w1 := hw1.symm; rw [hs'])
      go_ret
      first | exact ⟨_, ⟨rfl, by simp⟩, rfl⟩ | exact ⟨_, rfl, by simp⟩ | exact ⟨⟨_, rfl, by simp⟩, rfl⟩
    | false =>
      have HC := Lib.hid (show ¬ (p.data.toList = [] ∨ slashEnd p.data.toList = true) from fun e => e.elim hne (fun e => by rw [show slashEnd p.data.toList = false from hs] at e; cases e))
      have hs' : Lib.hasSuffix p.data.toList (⟨#[47]⟩ : ByteArray).data.toList = false := hs
      clear hz hne hs
      rw [if_neg HC.out]
      clear HC
      go_enter Tryd.func30, Tryd.ntmps30
      go_wp2_with (go_at_call 40; refine (Tryd.strings_HasSuffix p ⟨#[47]⟩ _ (by omega)).mono ?_; rintro _ w1 ⟨rfl, hw1⟩; obtain rfl : w = w1 := hw1.symm; rw [hs'])
      go_ret
      first | exact ⟨_, ⟨rfl, by simp⟩, rfl⟩ | exact ⟨_, rfl, by simp⟩ | exact ⟨⟨_, rfl, by simp⟩, rfl⟩
end Go.Proofs.YtdceechakocgfaaDoor
