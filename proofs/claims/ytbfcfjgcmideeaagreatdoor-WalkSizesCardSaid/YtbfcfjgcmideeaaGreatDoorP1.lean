/- strings.TrimRight at a slash, strings.LastIndexByte at a slash. -/
/- paths.goes, paths.Bad, paths.Join. -/
/- paths.Base, paths.Dir, and the reference's slash, bare, last, Base, Dir, Join, Bad. -/
/- The reference of layer 14: slash, bare, last, Base, Dir, Join, Bad, parts. -/
/- The reference of layer 14: Bad, parts. -/
import Derived.Test.YtbfcfjgcmideeaaGreatDoorM1
import Derived.WalkKit
import Derived.Outline
import Derived.Test.YtbfcfjgcmideeaaGreatDoorProg
import Derived.BigQuiet
import Derived.Deep.QuietTactic
import Derived.Lib.Hide
import Derived.Deep.LoopGhost
import Derived.IntWalk
import Derived.Test.YtbfcfjgcmideeaaGreatDoorParts
import Derived.Test.YtbfcfjgcmideeaaGreatDoorM2
namespace Go.Proofs.YtbfcfjgcmideeaaGreatDoor
open Go.RowKit
theorem get_byte (r : ByteArray) (n : Nat) (h : n < r.size) : r.data.toList[n]? = some (r[n]'h) := by
  rw [Array.getElem?_toList]; exact Array.getElem?_eq_getElem (by exact h)
theorem last_byte (r : ByteArray) (n : Nat) (h : r.size = n + 1) : r.data.toList = (r.extract 0 n).data.toList ++ [r[n]'(by omega)] := by
  have e : (r.extract 0 n).data.toList = r.data.toList.take n := by simp
  have hl : r.data.toList.length = n + 1 := by rw [Array.length_toList]; exact h
  have h2 := List.take_add_one (l := r.data.toList) (i := n)
  rw [List.take_of_length_le (by omega), get_byte r n (by omega)] at h2
  rw [e]; exact h2
theorem extract_size (r : ByteArray) (n : Nat) (h : n ≤ r.size) : (r.extract 0 n).size = n := by simp; omega
theorem byte47 (b : UInt8) : ((b.toNat : Int) == 47) = (b == 47) := by
  rw [Bool.eq_iff_iff, beq_iff_eq, beq_iff_eq]
  exact ⟨fun h => UInt8.toNat_inj.1 (by show _ = 47; omega), fun h => by rw [h]; rfl⟩
end Go.Proofs.YtbfcfjgcmideeaaGreatDoor
namespace Go.Proofs.YtbfcfjgcmideeaaGreatDoor
open Go.RowKit
attribute [local go_sem] Later.cell_eq
/-- A slice that reads as texts, none of them in block X. -/
def StrList (w : World) (X : Nat) (v : Value) (l : List (List UInt8)) : Prop :=
  ∃ (xs : List ByteArray) (A : Option Addr) (c : Nat), v = .slice A xs.length c ∧ xs.length ≤ c ∧ (A = none → c = 0) ∧ xs.map (·.data.toList) = l ∧
    (xs = [] ∧ A = none ∨ ∃ b o, A = some ⟨b, o, none⟩ ∧ b ≠ X ∧ b < w.heap.size ∧ ∀ (k : Nat) x, xs[k]? = some x → w.cell? ⟨b, o + k, none⟩ = some (.string x))
theorem StrList.nil (w : World) (X : Nat) : StrList w X (.slice none 0 0) [] := ⟨[], none, 0, rfl, Nat.le_refl _, fun _ => rfl, rfl, .inl ⟨rfl, rfl⟩⟩
theorem StrList.keep {w w' : World} {X : Nat} {v : Value} {l : List (List UInt8)} (h : StrList w X v l) (hb : Below w.heap.size w w') : StrList w' X v l := by
  obtain ⟨xs, A, c, h1, h2, h3, h4, h5⟩ := h
  refine ⟨xs, A, c, h1, h2, h3, h4, ?_⟩
  rcases h5 with h5 | ⟨b, o, h6, h7, h8, h9⟩
  · exact .inl h5
  · exact .inr ⟨b, o, h6, h7, Nat.lt_of_lt_of_le h8 hb.size, fun k x hk => cell_keep hb (h9 k x hk)⟩
theorem StrList.far {w : World} {X : Nat} {v : Value} {l : List (List UInt8)} (h : StrList w X v l) (o : Nat) (u : Value) : StrList (w.setCell ⟨X, o, none⟩ u) X v l := by
  obtain ⟨xs, A, c, h1, h2, h3, h4, h5⟩ := h
  refine ⟨xs, A, c, h1, h2, h3, h4, ?_⟩
  rcases h5 with h5 | ⟨b, o', h6, h7, h8, h9⟩
  · exact .inl h5
  · exact .inr ⟨b, o', h6, h7, by simpa [World.setCell] using h8, fun k x hk => cell_set (h9 k x hk) h7⟩
theorem own_list {w : World} {B X : Nat} {v : Value} {l : List (List UInt8)} (h : OwnStr w B v l) (hX : X < B) : StrList w X v l := by
  obtain ⟨xs, h1, h2⟩ := h
  rcases h1.shape with ⟨rfl, h4⟩ | ⟨g, c, rfl, h4, h5, h6, h7⟩
  · have hx : xs = [] := by simpa using h4
    subst hx
    exact ⟨[], none, 0, rfl, Nat.le_refl _, fun _ => rfl, h2, .inl ⟨rfl, rfl⟩⟩
  · refine ⟨xs, some ⟨g, 0, none⟩, c, by simp, by simpa using h4, fun h => (by cases h), h2, .inr ⟨g, 0, rfl, by omega, h7, fun k x hk => ?_⟩⟩
    have := h1.cell (i := k) (r := [Value.string x]) (by simp [hk]) (j := 0) rfl
    simpa using this
theorem own_slice {w : World} {B : Nat} {e : TypeId} {size : Nat} {v : Value} {rows : List (List Value)} (h : Own w B e size v rows) : ∃ A n c, v = .slice A n c := by
  rcases h.shape with ⟨h, -⟩ | ⟨g, c, h, -⟩
  · exact ⟨_, _, _, h⟩
  · exact ⟨_, _, _, h⟩
theorem flat_row (xs : List ByteArray) : (xs.map fun x => [Value.string x]).flatten = xs.map Value.string := flat_single xs
/-- A path's way, in a block of its own. -/
def WayRow (w : World) (bw : Nat) (at_ : Int) (v : Value) (dirs : Bool) (hops : Int) : Prop := w.heap[bw]? = some (.cells #[.int .i64 at_, v, .bool dirs, .int .i64 hops] 240 (0, 0))
namespace WayRow
variable {w w' : World} {bw : Nat} {at_ : Int} {v : Value} {dirs : Bool} {hops : Int}
theorem lt (h : WayRow w bw at_ v dirs hops) : bw < w.heap.size := (Array.getElem?_eq_some_iff.1 h).1
theorem same (h : WayRow w bw at_ v dirs hops) (e : w'.heap[bw]? = w.heap[bw]?) : WayRow w' bw at_ v dirs hops := e.trans h
theorem keep (h : WayRow w bw at_ v dirs hops) (hb : Below w.heap.size w w') : WayRow w' bw at_ v dirs hops := (hb.block bw h.lt).trans h
theorem grown (h : WayRow w bw at_ v dirs hops) {r : Option Nat} (hg : w.grownBy w' r) (hr : some bw ≠ r) : WayRow w' bw at_ v dirs hops := (hg.block bw h.lt hr).trans h
theorem c0 (h : WayRow w bw at_ v dirs hops) : w.cell? ⟨bw, 0, none⟩ = some (.int .i64 at_) := cell_of_row w bw 0 _ _ _ h
theorem c1 (h : WayRow w bw at_ v dirs hops) : w.cell? ⟨bw, 1, none⟩ = some v := cell_of_row w bw 1 _ _ _ h
theorem c2 (h : WayRow w bw at_ v dirs hops) : w.cell? ⟨bw, 2, none⟩ = some (.bool dirs) := cell_of_row w bw 2 _ _ _ h
theorem c3 (h : WayRow w bw at_ v dirs hops) : w.cell? ⟨bw, 3, none⟩ = some (.int .i64 hops) := cell_of_row w bw 3 _ _ _ h
theorem fr (h : WayRow w bw at_ v dirs hops) (i : Nat) : w.frozen? ⟨bw, i, none⟩ = false := frozen_of_row w bw i _ _ h
theorem s0 (h : WayRow w bw at_ v dirs hops) (x : Int) : WayRow (w.setCell ⟨bw, 0, none⟩ (.int .i64 x)) bw x v dirs hops := heap_setCell_same w bw 0 _ _ _ h
theorem s1 (h : WayRow w bw at_ v dirs hops) (x : Value) : WayRow (w.setCell ⟨bw, 1, none⟩ x) bw at_ x dirs hops := heap_setCell_same w bw 1 _ _ _ h
theorem s2 (h : WayRow w bw at_ v dirs hops) (x : Bool) : WayRow (w.setCell ⟨bw, 2, none⟩ (.bool x)) bw at_ v x hops := heap_setCell_same w bw 2 _ _ _ h
theorem s3 (h : WayRow w bw at_ v dirs hops) (x : Int) : WayRow (w.setCell ⟨bw, 3, none⟩ (.int .i64 x)) bw at_ v dirs x := heap_setCell_same w bw 3 _ _ _ h
end WayRow
theorem grown_refl (w : World) (r : Option Nat) : w.grownBy w r := ⟨rfl, rfl, rfl, Nat.le_refl _, fun _ _ _ => rfl⟩
theorem grown_trans {a b c : World} {r : Option Nat} (h : a.grownBy b r) (k : b.grownBy c r) : a.grownBy c r := ⟨k.os.trans h.os, k.tape.trans h.tape, k.output.trans h.output, Nat.le_trans h.size k.size, fun i hi hn => (k.block i (Nat.lt_of_lt_of_le hi h.size) hn).trans (h.block i hi hn)⟩
theorem grown_below {a b : World} (h : Below a.heap.size a b) (r : Option Nat) : a.grownBy b r := ⟨h.os, h.tape, h.output, h.size, fun i hi _ => h.block i hi⟩
theorem grown_set (w : World) (bw o : Nat) (u : Value) : w.grownBy (w.setCell ⟨bw, o, none⟩ u) (some bw) := ⟨rfl, rfl, rfl, Nat.le_of_eq (by simp [World.setCell]), fun k _ hn => Below.heap_setCell w _ u k (fun e => hn (by rw [e]))⟩
theorem grown_drew (w : World) (r : Option Nat) : w.grownBy w.drew r := ⟨rfl, rfl, rfl, Nat.le_refl _, fun _ _ _ => rfl⟩
theorem first_byte (p : ByteArray) (h : 0 < p.size) : p.data.toList.head? = some (p[0]'h) := by
  rw [List.head?_eq_getElem?, Array.getElem?_toList, Array.getElem?_eq_getElem (by exact h)]; rfl
theorem first_slash (p : ByteArray) (h : 0 < p.size) (a b : Int) : (if p.data.toList.head? = some 47 then a else b) = if (((p[0]'h).toNat : Int) == 47) = true then a else b := by
  rw [first_byte p h]
  by_cases e : p[0]'h = 47
  · rw [if_pos (by rw [e]), if_pos (by rw [e]; rfl)]
  · rw [if_neg (by simpa using e), if_neg]
    intro hh
    have h1 : (((p[0]'h).toNat : Int) = 47) := by simpa using hh
    exact e (UInt8.toNat_inj.1 (by show _ = 47; omega))
set_option maxHeartbeats 1000000 in
set_option maxRecDepth 100000 in
theorem goes_calls (p : ByteArray) (hp1 : 0 < p.size) (hp : p.size ≤ 1000000) (bw : Nat) (at_ : Int) (v : Value) (rest : List (List UInt8)) (hrl : rest.length ≤ 1000000) (dirs : Bool) (hops : Int) (w : World)
    (hrow : WayRow w bw at_ v dirs hops) (hv : StrList w bw v rest) :
    Calls Tryz.prog 191 #[.pointer (some ⟨bw, 0, none⟩), .string p] w fun e w' => ∃ v', (e = .returned (.tuple #[]) ∧ WayRow w' bw (if p.data.toList.head? = some 47 then 1 else at_) v' dirs hops ∧ StrList w' bw v' (partsOf p.data.toList ++ rest)) ∧ w.grownBy w' (some bw) := by
  have HPL : Hid ((partsOf p.data.toList).length ≤ 1000001) := Lib.hid (by
    unfold partsOf
    refine Nat.le_trans (List.length_filter_le _ _) ?_
    have := count_le_size p
    rw [pieces_length]; omega)
  obtain ⟨at1, ha1⟩ : ∃ x : Int, x = if p.data.toList.head? = some 47 then 1 else at_ := ⟨_, rfl⟩
  rw [← ha1]
  rw [first_slash p hp1] at ha1
  have k0 := hrow.c0
  have f0 := hrow.fr 0
  have hbw := hrow.lt
  have HROW := Lib.hid hrow
  have HV := Lib.hid hv
  clear hrow hv
  cases h47 : (((p[0]'hp1).toNat : Int) == 47) with
  | true =>
    rw [h47, if_pos rfl] at ha1
    go_enter Tryz.func191, Tryz.ntmps191
    go_wp2
    obtain ⟨w1, hw1⟩ : ∃ x, x = w.setCell ⟨bw, 0, none⟩ (.int .i64 1) := ⟨_, rfl⟩
    rw [← hw1]
    have HR1 : Hid (WayRow w1 bw at1 v dirs hops) := Lib.hid (by rw [hw1, ha1]; exact HROW.out.s0 1)
    have HV1 : Hid (StrList w1 bw v rest) := Lib.hid (by rw [hw1]; exact HV.out.far 0 _)
    have HG1 : Hid (w.grownBy w1 (some bw)) := Lib.hid (by rw [hw1]; exact grown_set w bw 0 _)
    clear hw1 k0 f0 ha1 HROW HV hbw
    have hbl : bw < w1.heap.size := HR1.out.lt
    have k1 := HR1.out.c1
    obtain ⟨xs, A, c, rfl, hc, hA0, hx, hsrc⟩ := HV1.out
    have HC := Lib.hid hc
    have HX := Lib.hid hx
    have HS := Lib.hid hsrc
    have hxl : xs.length ≤ 1000000 := (by rw [← hx, List.length_map] at hrl; exact hrl)
    clear hc hx hsrc
    go_region_law (first
      | (go_simp; go_at_call 228; refine (parts_calls p hp _).mono ?_; rintro _ w2 ⟨vp, ⟨rfl, ys, hown, hys⟩, hb2⟩
         have hys' := hys
         have hyl : ys.length ≤ 1000001 := (by rw [← List.length_map (f := fun x : ByteArray => x.data.toList), hys]; exact HPL.out)
         have HY := Lib.hid hys
         have HO := Lib.hid hown
         have HB2 := Lib.hid hb2
         have k2 := cell_keep hb2 (show w1.drew.cell? ⟨bw, 1, none⟩ = _ from k1)
         have HR2 : Hid (WayRow w2 bw at1 (.slice A xs.length c) dirs hops) := Lib.hid ((HR1.out.same (w' := w1.drew) rfl).keep hb2)
         have HS2 : Hid (SrcAt w2 A (xs.map fun x => [Value.string x])) := Lib.hid (by
           rcases HS.out with ⟨h1, h2⟩ | ⟨b, o, h1, h2, h3, h4⟩
           · exact .inl ⟨by rw [h1]; rfl, h2⟩
           · refine .inr ⟨b, o, h1, fun j u hu => ?_⟩
             rw [flat_single, List.getElem?_map] at hu
             obtain ⟨x, hx, rfl⟩ := Option.map_eq_some_iff.1 hu
             exact cell_keep hb2 (show w1.drew.cell? _ = _ from h4 j x hx))
         clear hown hys hb2 hys')
      | (refine step_append_many rfl (.tmp 12) (.tmp 16) 33 rfl elem_str ys.length (List.length_map _) (by simp [Act.eval]) HO.out HB2.out (xs.map fun x => [Value.string x]) (by simp [Act.eval]) hA0 (List.length_map _) (fun r hr => by obtain ⟨x, -, rfl⟩ := List.mem_map.1 hr; rfl) HS2.out (fun u hu => by rw [flat_single] at hu; obtain ⟨x, -, rfl⟩ := List.mem_map.1 hu; rfl) (by unfold maxLen; omega) (by omega) ?_
         intro v' w3 hown3 hb3 hg3 hv3
         have hne : some bw ≠ vp.ownBlock := fun e => absurd (HO.out.lt bw e.symm).1 (Nat.not_le_of_lt hbl)
         obtain ⟨A3, n3, c3, rfl⟩ := own_slice hown3
         have HR3 : Hid (WayRow w3 bw at1 (.slice A xs.length c) dirs hops) := Lib.hid (HR2.out.grown hg3 hne)
         have k3 := HR3.out.c1
         have f3 := HR3.out.fr 1
         have HO3 := Lib.hid hown3
         have HB3 := Lib.hid hb3
         clear hown3 hb3 hg3 hv3 hne))
    all_goals go_wp2
    all_goals refine bodyPost_end (v := .tuple #[]) (by kernel_rfl) rfl ?_
    all_goals exact ⟨_, ⟨rfl, HR3.out.s1 _, (own_list (B := w1.drew.heap.size) ⟨ys ++ xs, by rw [List.map_append]; exact HO3.out, by rw [List.map_append, HY.out, HX.out]⟩ hbl).far 1 _⟩, grown_trans HG1.out (grown_trans (grown_drew w1 _) (grown_trans (grown_below HB3.out _) (grown_set w3 bw 1 _)))⟩
  | false =>
    rw [h47, if_neg (by simp)] at ha1
    go_enter Tryz.func191, Tryz.ntmps191
    go_wp2
    obtain ⟨w1, hw1⟩ : ∃ x, x = w := ⟨_, rfl⟩
    rw [← hw1]
    have HR1 : Hid (WayRow w1 bw at1 v dirs hops) := Lib.hid (by rw [hw1, ha1]; exact HROW.out)
    have HV1 : Hid (StrList w1 bw v rest) := Lib.hid (by rw [hw1]; exact HV.out)
    have HG1 : Hid (w.grownBy w1 (some bw)) := Lib.hid (by rw [hw1]; exact grown_refl _ _)
    clear hw1 k0 f0 ha1 HROW HV hbw
    have hbl : bw < w1.heap.size := HR1.out.lt
    have k1 := HR1.out.c1
    obtain ⟨xs, A, c, rfl, hc, hA0, hx, hsrc⟩ := HV1.out
    have HC := Lib.hid hc
    have HX := Lib.hid hx
    have HS := Lib.hid hsrc
    have hxl : xs.length ≤ 1000000 := (by rw [← hx, List.length_map] at hrl; exact hrl)
    clear hc hx hsrc
    go_region_law (first
      | (go_simp; go_at_call 228; refine (parts_calls p hp _).mono ?_; rintro _ w2 ⟨vp, ⟨rfl, ys, hown, hys⟩, hb2⟩
         have hys' := hys
         have hyl : ys.length ≤ 1000001 := (by rw [← List.length_map (f := fun x : ByteArray => x.data.toList), hys]; exact HPL.out)
         have HY := Lib.hid hys
         have HO := Lib.hid hown
         have HB2 := Lib.hid hb2
         have k2 := cell_keep hb2 (show w1.drew.cell? ⟨bw, 1, none⟩ = _ from k1)
         have HR2 : Hid (WayRow w2 bw at1 (.slice A xs.length c) dirs hops) := Lib.hid ((HR1.out.same (w' := w1.drew) rfl).keep hb2)
         have HS2 : Hid (SrcAt w2 A (xs.map fun x => [Value.string x])) := Lib.hid (by
           rcases HS.out with ⟨h1, h2⟩ | ⟨b, o, h1, h2, h3, h4⟩
           · exact .inl ⟨by rw [h1]; rfl, h2⟩
           · refine .inr ⟨b, o, h1, fun j u hu => ?_⟩
             rw [flat_single, List.getElem?_map] at hu
             obtain ⟨x, hx, rfl⟩ := Option.map_eq_some_iff.1 hu
             exact cell_keep hb2 (show w1.drew.cell? _ = _ from h4 j x hx))
         clear hown hys hb2 hys')
      | (refine step_append_many rfl (.tmp 12) (.tmp 16) 33 rfl elem_str ys.length (List.length_map _) (by simp [Act.eval]) HO.out HB2.out (xs.map fun x => [Value.string x]) (by simp [Act.eval]) hA0 (List.length_map _) (fun r hr => by obtain ⟨x, -, rfl⟩ := List.mem_map.1 hr; rfl) HS2.out (fun u hu => by rw [flat_single] at hu; obtain ⟨x, -, rfl⟩ := List.mem_map.1 hu; rfl) (by unfold maxLen; omega) (by omega) ?_
         intro v' w3 hown3 hb3 hg3 hv3
         have hne : some bw ≠ vp.ownBlock := fun e => absurd (HO.out.lt bw e.symm).1 (Nat.not_le_of_lt hbl)
         obtain ⟨A3, n3, c3, rfl⟩ := own_slice hown3
         have HR3 : Hid (WayRow w3 bw at1 (.slice A xs.length c) dirs hops) := Lib.hid (HR2.out.grown hg3 hne)
         have k3 := HR3.out.c1
         have f3 := HR3.out.fr 1
         have HO3 := Lib.hid hown3
         have HB3 := Lib.hid hb3
         clear hown3 hb3 hg3 hv3 hne))
    all_goals go_wp2
    all_goals refine bodyPost_end (v := .tuple #[]) (by kernel_rfl) rfl ?_
    all_goals exact ⟨_, ⟨rfl, HR3.out.s1 _, (own_list (B := w1.drew.heap.size) ⟨ys ++ xs, by rw [List.map_append]; exact HO3.out, by rw [List.map_append, HY.out, HX.out]⟩ hbl).far 1 _⟩, grown_trans HG1.out (grown_trans (grown_drew w1 _) (grown_trans (grown_below HB3.out _) (grown_set w3 bw 1 _)))⟩
/-- Has a path too many bytes, or a byte 0? -/
def badS (s : List UInt8) : Bool := decide (1024 < s.length) || decide (0 ≤ Lib.indexByte s 0)
theorem bad_calls (p : ByteArray) (w : World) :
    Calls Tryz.prog 190 #[.string p] w fun e w' => e = .returned (.bool (badS p.data.toList)) ∧ w' = w := by
  have hl : p.data.toList.length = p.size := Array.length_toList
  unfold badS
  rw [hl]
  cases hb : decide (1024 < p.size) with
  | true =>
    have h1 : decide ((1024 : Int) < (p.size : Int)) = true := decide_eq_true (by have := of_decide_eq_true hb; omega)
    go_enter Tryz.func190, Tryz.ntmps190
    go_wp2
    go_ret
    exact ⟨rfl, rfl⟩
  | false =>
    have h1 : decide ((1024 : Int) < (p.size : Int)) = false := decide_eq_false (by have := of_decide_eq_false hb; omega)
    rw [Bool.false_or]
    go_enter Tryz.func190, Tryz.ntmps190
    go_wp2_with (go_at_call 126; refine (Tryz.strings_Contains_one p 0 _).mono ?_; rintro _ w1 ⟨rfl, hw1⟩; obtain rfl : w = w1 := hw1.symm)
    go_ret
    exact ⟨rfl, rfl⟩
def slashEnd (s : List UInt8) : Bool := Lib.hasSuffix s [47]
def joinS (p n : List UInt8) : List UInt8 := if p = [] ∨ slashEnd p = true then p ++ n else p ++ 47 :: n
theorem pjoin_calls (p n : ByteArray) (hp : p.size ≤ 1000000) (hn : n.size ≤ 1000000) (w : World) :
    Calls Tryz.prog 146 #[.string p, .string n] w fun e w' => ∃ r : ByteArray, (e = .returned (.string r) ∧ r.data.toList = joinS p.data.toList n.data.toList) ∧ w' = w := by
  have hpl : p.data.toList.length = p.size := Array.length_toList
  have hz := toList_nil p
  unfold joinS
  by_cases h : p.size = 0
  · have h1 : p.toList = [] := hz.mpr h
    have HC := Lib.hid (show p.data.toList = [] ∨ slashEnd p.data.toList = true from .inl (List.eq_nil_of_length_eq_zero (by omega)))
    rw [if_pos HC.out]
    clear HC
    go_enter Tryz.func146, Tryz.ntmps146
    go_wp2
    go_ret
    first | exact ⟨_, ⟨rfl, by simp⟩, rfl⟩ | exact ⟨_, rfl, by simp⟩ | exact ⟨⟨_, rfl, by simp⟩, rfl⟩
  · have h1 : ¬ p.toList = [] := fun e => h (hz.mp e)
    have h2 : p.toList.isEmpty = false := by simpa using h1
    have hne : ¬ p.data.toList = [] := fun e => h (by rw [← hpl, e]; rfl)
    cases hs : Lib.hasSuffix p.data.toList [47] with
    | true =>
      have HC := Lib.hid (show p.data.toList = [] ∨ slashEnd p.data.toList = true from .inr hs)
      have hs' : Lib.hasSuffix p.data.toList (⟨#[47]⟩ : ByteArray).data.toList = true := hs
      clear hz hne hs
      rw [if_pos HC.out]
      clear HC
      go_enter Tryz.func146, Tryz.ntmps146
      go_wp2_with (go_at_call 192; refine (Tryz.strings_HasSuffix p ⟨#[47]⟩ _ (by omega)).mono ?_; rintro _ w1 ⟨rfl, hw1⟩; obtain rfl : w = w1 := hw1.symm; rw [hs'])
      go_ret
      first | exact ⟨_, ⟨rfl, by simp⟩, rfl⟩ | exact ⟨_, rfl, by simp⟩ | exact ⟨⟨_, rfl, by simp⟩, rfl⟩
    | false =>
      have HC := Lib.hid (show ¬ (p.data.toList = [] ∨ slashEnd p.data.toList = true) from fun e => e.elim hne (fun e => by rw [show slashEnd p.data.toList = false from hs] at e; cases e))
      have hs' : Lib.hasSuffix p.data.toList (⟨#[47]⟩ : ByteArray).data.toList = false := hs
      clear hz hne hs
      rw [if_neg HC.out]
      clear HC
      go_enter Tryz.func146, Tryz.ntmps146
      go_wp2_with (go_at_call 192; refine (Tryz.strings_HasSuffix p ⟨#[47]⟩ _ (by omega)).mono ?_; rintro _ w1 ⟨rfl, hw1⟩; obtain rfl : w = w1 := hw1.symm; rw [hs'])
      go_ret
      first | exact ⟨_, ⟨rfl, by simp⟩, rfl⟩ | exact ⟨_, rfl, by simp⟩ | exact ⟨⟨_, rfl, by simp⟩, rfl⟩
end Go.Proofs.YtbfcfjgcmideeaaGreatDoor
namespace Go.Proofs.YtbfcfjgcmideeaaGreatDoor
open Go.RowKit
attribute [local go_sem] Later.cell_eq
theorem slashEnd_nil : slashEnd [] = false := rfl
theorem slashEnd_snoc (r : List UInt8) (b : UInt8) : slashEnd (r ++ [b]) = (b == 47) := by
  unfold slashEnd Lib.hasSuffix
  rw [Bool.eq_iff_iff]
  simp
  exact eq_comm
theorem hasPrefix_head (s : List UInt8) : Lib.hasPrefix s [47] = true ↔ s.head? = some 47 := by
  unfold Lib.hasPrefix
  cases s with
  | nil => simp
  | cons a r => simp; exact eq_comm
theorem size_nil (s : ByteArray) : s.data.toList = [] ↔ s.size = 0 := by rw [← List.length_eq_zero_iff, Array.length_toList]; rfl
theorem nil_toList {s : ByteArray} (h : s.size = 0) : s.toList = [] := (toList_nil s).mpr h
theorem ne_toList {s : ByteArray} {n : Nat} (h : s.size = n + 1) : ¬ s.toList = [] := fun e => by have := (toList_nil s).mp e; omega
end Go.Proofs.YtbfcfjgcmideeaaGreatDoor
namespace Go.Proofs.YtbfcfjgcmideeaaGreatDoor
open Go.RowKit
attribute [local go_sem] Later.cell_eq
theorem extract_tail (r : ByteArray) (n : Nat) : (r.extract n r.size).data.toList = r.data.toList.drop n := by
  have h : r.data.toList.length = r.size := Array.length_toList
  rw [ByteArray.data_extract, Array.toList_extract, List.extract_eq_take_drop, ← h, ← List.length_drop, List.take_length]
set_option maxHeartbeats 1000000 in
theorem refSlash_calls (s : ByteArray) (hs : s.size ≤ 140737488355328) (w : World) :
    Calls Tryz.prog 217 #[.string s] w fun e w' => e = .returned (.bool (slashEnd s.data.toList)) ∧ w' = w := by
  cases hn : s.size with
  | zero =>
    have h0 := nil_toList hn
    have HE : Hid (slashEnd s.data.toList = false) := Lib.hid (by rw [← ByteArray.toList_eq, h0]; rfl)
    go_enter Tryz.func217, Tryz.ntmps217
    go_wp2
    go_ret
    exact ⟨ret_bool HE.out.symm, rfl⟩
  | succ n =>
    have h0 := ne_toList hn
    have h1 : s.toList.isEmpty = false := by simpa using h0
    have hnn : n < s.size := by omega
    have hb := last_byte s n hn
    obtain ⟨b, hbn⟩ : ∃ b, s[n]'hnn = b := ⟨_, rfl⟩
    have hbn' : (s[n]'hnn).toNat = b.toNat := by rw [hbn]
    rw [hbn] at hb
    have HE : Hid (((b.toNat : Int) == 47) = slashEnd s.data.toList) := Lib.hid (by rw [hb, slashEnd_snoc, byte47])
    have hn2 : n ≤ 140737488355328 := by omega
    clear hb hbn
    go_enter Tryz.func217, Tryz.ntmps217
    go_wp2
    go_ret
    exact ⟨ret_bool HE.out, rfl⟩
theorem refJoin_calls (p n : ByteArray) (hp : p.size ≤ 1000000) (hn : n.size ≤ 1000000) (w : World) :
    Calls Tryz.prog 148 #[.string p, .string n] w fun e w' => ∃ r : ByteArray, (e = .returned (.string r) ∧ r.data.toList = joinS p.data.toList n.data.toList) ∧ w' = w := by
  by_cases h0 : p.toList = []
  · have HE : Hid (n.data.toList = joinS p.data.toList n.data.toList) := Lib.hid (by unfold joinS; rw [← ByteArray.toList_eq p, h0]; simp)
    go_enter Tryz.func148, Tryz.ntmps148
    go_wp2
    go_ret
    first | exact ⟨_, ⟨rfl, HE.out⟩, rfl⟩ | exact ⟨_, rfl, HE.out⟩ | exact ⟨⟨_, rfl, HE.out⟩, rfl⟩
  · have h1 : p.toList.isEmpty = false := by simpa using h0
    have HN : Hid (¬ p.data.toList = []) := Lib.hid (by rw [← ByteArray.toList_eq]; exact h0)
    cases hs : slashEnd p.data.toList with
    | true =>
      have HS := Lib.hid hs
      have HE : Hid ((p ++ n).data.toList = joinS p.data.toList n.data.toList) := Lib.hid (by unfold joinS; rw [if_pos (.inr hs)]; simp)
      clear hs
      go_enter Tryz.func148, Tryz.ntmps148
      go_wp2_with (go_at_call 217; refine (refSlash_calls p (by omega) _).mono ?_; rintro _ w1 ⟨rfl, hw1⟩; obtain rfl : w = w1 := hw1.symm; rw [HS.out])
      go_ret
      first | exact ⟨_, ⟨rfl, HE.out⟩, rfl⟩ | exact ⟨_, rfl, HE.out⟩ | exact ⟨⟨_, rfl, HE.out⟩, rfl⟩
    | false =>
      have HS := Lib.hid hs
      have HE : Hid ((p ++ ⟨#[47]⟩ ++ n).data.toList = joinS p.data.toList n.data.toList) := Lib.hid (by unfold joinS; rw [if_neg (fun h => h.elim HN.out (fun h => by rw [hs] at h; cases h))]; simp)
      clear hs
      go_enter Tryz.func148, Tryz.ntmps148
      go_wp2_with (go_at_call 217; refine (refSlash_calls p (by omega) _).mono ?_; rintro _ w1 ⟨rfl, hw1⟩; obtain rfl : w = w1 := hw1.symm; rw [HS.out])
      go_ret
      first | exact ⟨_, ⟨rfl, HE.out⟩, rfl⟩ | exact ⟨_, rfl, HE.out⟩ | exact ⟨⟨_, rfl, HE.out⟩, rfl⟩
end Go.Proofs.YtbfcfjgcmideeaaGreatDoor
namespace Go.Proofs.YtbfcfjgcmideeaaGreatDoor
open Go.RowKit
attribute [local go_sem] Later.cell_eq
theorem index_mem (l : List UInt8) (b : UInt8) : 0 ≤ Lib.indexByte l b ↔ b ∈ l := by
  have := Lib.contains_iff_indexByte l b
  rw [← List.contains_iff_mem, this, decide_eq_true_iff]
theorem badS_iff (s : List UInt8) : badS s = (decide (1024 < s.length) || decide (0 ∈ s)) := by
  unfold badS
  rw [decide_eq_decide.2 (index_mem s 0)]
set_option maxHeartbeats 1000000 in
theorem refBad_calls (s : ByteArray) (hs : s.size ≤ 140737488355328) (w : World) :
    Calls Tryz.prog 215 #[.string s] w fun e w' => e = .returned (.bool (badS s.data.toList)) ∧ w' = w := by
  have hsl : s.data.toList.length = s.size := Array.length_toList
  have HSL := Lib.hid hsl
  have HBS := Lib.hid (badS_iff s.data.toList)
  clear hsl
  go_enter Tryz.func215, Tryz.ntmps215
  go_wp2
  go_loopg [3] s.size (fun gk s3 wr => ∃ i : Nat, i + gk = s.size ∧ s3 = .int .i64 i ∧ Hid (0 ∉ s.data.toList.take i) ∧ wr = w)
  case atStart => exact ⟨0, by omega, rfl, Lib.hid (by simp), rfl⟩
  case round =>
    obtain ⟨i, hg, rfl, H0, hw⟩ := hrel
    obtain rfl : w = wr := hw.symm
    cases gk with
    | zero =>
      obtain rfl : i = s.size := by omega
      have HR : Hid (decide (1024 < s.size) = badS s.data.toList) := Lib.hid (by
        rw [HBS.out, HSL.out]
        have h := H0.out
        rw [List.take_of_length_le (by rw [HSL.out]; exact Nat.le_refl _)] at h
        rw [decide_eq_false h, Bool.or_false])
      by_cases h : 1024 < s.size
      · have e1 : decide ((1024 : Int) < (s.size : Int)) = true := decide_eq_true (by omega)
        have HT : Hid (badS s.data.toList = true) := Lib.hid (by rw [← HR.out, decide_eq_true h])
        clear h
        go_wp2
        go_ret
        exact ⟨ret_bool HT.out.symm, rfl⟩
      · have e1 : decide ((1024 : Int) < (s.size : Int)) = false := decide_eq_false (by omega)
        have HT : Hid (badS s.data.toList = false) := Lib.hid (by rw [← HR.out, decide_eq_false h])
        clear h
        go_wp2
        go_ret
        exact ⟨ret_bool HT.out.symm, rfl⟩
    | succ g =>
      have hi : i < s.size := by omega
      have hts := List.take_add_one (l := s.data.toList) (i := i)
      rw [get_byte s i hi] at hts
      obtain ⟨b, hbn⟩ : ∃ b, s[i]'hi = b := ⟨_, rfl⟩
      rw [hbn] at hts
      have hb : (s[i]'hi).toNat = b.toNat := by rw [hbn]
      have HM : Hid (b ∈ s.data.toList) := Lib.hid (by rw [← hbn]; exact List.mem_of_getElem? (get_byte s i hi))
      have HT := Lib.hid hts
      clear hts hbn
      by_cases h0 : b = 0
      · have e0 : ((b.toNat : Int) == 0) = true := by rw [h0]; rfl
        have e0' : b.toNat = 0 := by rw [h0]; rfl
        have HR : Hid (badS s.data.toList = true) := Lib.hid (by rw [HBS.out, show decide ((0 : UInt8) ∈ s.data.toList) = true from decide_eq_true (by rw [← h0]; exact HM.out), Bool.or_true])
        clear h0
        go_wp2
        go_ret
        exact ⟨ret_bool HR.out.symm, rfl⟩
      · have e0 : ((b.toNat : Int) == 0) = false := beq_eq_false_iff_ne.2 (fun e => h0 (UInt8.toNat_inj.1 (by show _ = 0; omega)))
        have e0' : ¬ b.toNat = 0 := fun e => h0 (UInt8.toNat_inj.1 e)
        have HN := Lib.hid h0
        clear h0
        go_wp2
        go_roundg g
        case measure => omega
        case rel => exact ⟨i + 1, by omega, by go_num, Lib.hid (by
          rw [HT.out, List.mem_append]
          rintro (h | h)
          · exact H0.out h
          · simp at h; exact HN.out h.symm), rfl⟩
theorem extract_mid (s : ByteArray) (f i : Nat) : (s.extract f i).data.toList = (s.data.toList.take i).drop f := by
  rw [ByteArray.data_extract, Array.toList_extract, List.extract_eq_take_drop, List.drop_take]
/-- How far the reference has come with a path's parts. -/
def PartsSt (s : ByteArray) (f i : Nat) (l : List (List UInt8)) : Prop :=
  (i ≤ s.size ∧ f ≤ i ∧ PartsTo s.data.toList f l ∧ 47 ∉ (s.data.toList.take i).drop f) ∨ (i = s.size + 1 ∧ f = s.size + 1 ∧ l = partsOf s.data.toList)
theorem partsSt_end {s : ByteArray} {f : Nat} {l : List (List UInt8)} (h : PartsSt s f (s.size + 1) l) : l = partsOf s.data.toList := by
  rcases h with ⟨h, -⟩ | ⟨-, -, h⟩
  · omega
  · exact h
theorem partsSt_go {s : ByteArray} {f i : Nat} {l : List (List UInt8)} {b : UInt8} (h : PartsSt s f i l) (hi : i < s.size) (hb : s.data.toList[i]? = some b) (h47 : b ≠ 47) : PartsSt s f (i + 1) l := by
  rcases h with ⟨-, h2, h3, h4⟩ | ⟨h, -⟩
  · refine .inl ⟨by omega, by omega, h3, ?_⟩
    rw [mid_step h2 hb, List.mem_append]
    rintro (h | h)
    · exact h4 h
    · simp at h; exact h47 h.symm
  · omega
theorem partsSt_hit {s : ByteArray} {f i : Nat} {l : List (List UInt8)} (h : PartsSt s f i l) (hi : i ≤ s.size) (hb : i = s.size ∨ s.data.toList[i]? = some 47) :
    f ≤ i ∧ (f < i → PartsSt s (i + 1) (i + 1) (l ++ [(s.extract f i).data.toList])) ∧ (i ≤ f → PartsSt s (i + 1) (i + 1) l) := by
  have hsl : s.data.toList.length = s.size := Array.length_toList
  rcases h with ⟨-, h2, h3, h4⟩ | ⟨h, -⟩
  · refine ⟨h2, fun hlt => ?_, fun hle => ?_⟩
    · have hne : (s.data.toList.take i).drop f ≠ [] := fun e => by rw [mid_nil (by omega)] at e; omega
      rw [extract_mid]
      by_cases hie : i = s.size
      · subst hie
        refine .inr ⟨rfl, rfl, ?_⟩
        rw [← hsl] at h4 hne ⊢
        rw [partsTo_end (by omega) h4 h3, if_neg hne]
      · have hb' : s.data.toList[i]? = some 47 := hb.resolve_left hie
        refine .inl ⟨by omega, Nat.le_refl _, ?_, by rw [mid_self]; simp⟩
        have := partsTo_next h2 hb' h4 h3
        rwa [if_neg hne] at this
    · have hnil : (s.data.toList.take i).drop f = [] := (mid_nil (by omega)).2 hle
      by_cases hie : i = s.size
      · subst hie
        refine .inr ⟨rfl, rfl, ?_⟩
        rw [← hsl] at h4 hnil
        have := partsTo_end (by omega) h4 h3
        rw [if_pos hnil, List.append_nil] at this
        exact this.symm
      · have hb' : s.data.toList[i]? = some 47 := hb.resolve_left hie
        refine .inl ⟨by omega, Nat.le_refl _, ?_, by rw [mid_self]; simp⟩
        have := partsTo_next h2 hb' h4 h3
        rwa [if_pos hnil, List.append_nil] at this
  · omega
theorem own_letter {w : World} {B : Nat} {v : Value} {xs : List ByteArray} (h : Own w B 9 1 v (xs.map fun x => [Value.string x])) : ∃ A c, v = .slice A xs.length c ∧ xs.length ≤ c := by
  rcases h.shape with ⟨rfl, h4⟩ | ⟨g, c, rfl, h4, -⟩
  · have : xs = [] := by simpa using h4
    subst this
    exact ⟨none, 0, rfl, Nat.le_refl _⟩
  · exact ⟨some ⟨g, 0, none⟩, c, by simp, by simpa using h4⟩
def PartsPost (s : ByteArray) (w : World) (e : Ending) (w' : World) : Prop := ∃ v, (e = .returned v ∧ OwnStr w' w.heap.size v (partsOf s.data.toList)) ∧ Below w.heap.size w w'
set_option maxHeartbeats 2000000 in
set_option maxRecDepth 100000 in
theorem refParts_calls (s : ByteArray) (hs : s.size ≤ 1000000) (w : World) :
    Calls Tryz.prog 216 #[.string s] w (PartsPost s w) := by
  go_enter Tryz.func216, Tryz.ntmps216
  go_wp2
  go_loopg [3, 4, 5] (s.size + 1) (fun gk sl sf si wr => ∃ (xs : List ByteArray) (f i : Nat), i + gk = s.size + 1 ∧ sf = .int .i64 f ∧ si = .int .i64 i ∧ xs.length ≤ i ∧ Hid (PartsSt s f i (xs.map (·.data.toList))) ∧ Own wr w.heap.size 9 1 sl (xs.map fun x => [Value.string x]) ∧ Below w.heap.size w wr)
  case atStart => exact ⟨[], 0, 0, by omega, rfl, rfl, Nat.le_refl _, Lib.hid (.inl ⟨Nat.zero_le _, Nat.le_refl _, partsTo_start _, by simp⟩), Own.nil _ _ _ _, Below.refl _ _⟩
  case round =>
    obtain ⟨xs, f, i, hg, rfl, rfl, hxl, HP, hown, hb⟩ := hrel
    have HO := Lib.hid hown
    have HB := Lib.hid hb
    cases gk with
    | zero =>
      obtain rfl : i = s.size + 1 := by omega
      have e1 : decide (((s.size : Int) + 1) ≤ (s.size : Int)) = false := decide_eq_false (by omega)
      clear hown hb
      go_wp2
      go_ret
      exact ⟨_, ⟨rfl, xs, HO.out, partsSt_end HP.out⟩, HB.out⟩
    | succ g =>
      have hi : i ≤ s.size := by omega
      have hi1 : (i : Int) ≤ (s.size : Int) := by omega
      have hxs : xs.length ≤ 1000001 := by omega
      by_cases hlt : i < s.size
      · have hl1 : decide ((i : Int) < (s.size : Int)) = true := decide_eq_true (by omega)
        have hl2 : decide (i < s.size) = true := decide_eq_true hlt
        have hgb := get_byte s i hlt
        obtain ⟨b, hbn⟩ : ∃ b, s[i]'hlt = b := ⟨_, rfl⟩
        rw [hbn] at hgb
        have hb' : (s[i]'hlt).toNat = b.toNat := by rw [hbn]
        have HGB := Lib.hid hgb
        clear hgb hbn
        by_cases h47 : b = 47
        · have e47 : ((b.toNat : Int) == 47) = true := by rw [byte47]; simpa using h47
          have e47n : ((b.toNat : Int) != 47) = false := by rw [h47]; rfl
          have e47' : b.toNat = 47 := by rw [h47]; rfl
          obtain ⟨hf, hh1, hh2⟩ := partsSt_hit HP.out hi (.inr (by rw [HGB.out, h47]))
          by_cases hfi : f < i
          · have hf1 : decide ((f : Int) < (i : Int)) = true := decide_eq_true (by omega)
            have hf2 : (f : Int) < (i : Int) := by omega
            have HN := Lib.hid (hh1 hfi)
            have hf3 : (f : Int) ≤ (i : Int) := by omega
            clear h47 hh1 hh2
            obtain ⟨A0, c0, rfl, hc0⟩ := own_letter hown
            go_wp2_with (at_builtin; refine wpList_append_one rfl _ _ 33 rfl elem_str xs.length (by simp) [.string (s.extract f i)] rfl HO.out HB.out rfl rfl (by simp [Value.oneCell']) (by unfold maxLen; omega) (by omega) ?_; rintro _ w2 hown2 hb2 - - ⟨g', c', rfl, hc', hg'⟩; have HO2 := Lib.hid hown2; have HB2 := Lib.hid hb2; clear hown2 hb2)
            go_roundg g
            case measure => omega
            case rel => exact ⟨xs ++ [s.extract f i], i + 1, i + 1, by omega, by go_num, by go_num, by simp; omega, Lib.hid (by rw [List.map_append]; exact HN.out), by rw [List.map_append]; exact HO2.out, HB2.out⟩
          · have hf1 : decide ((f : Int) < (i : Int)) = false := decide_eq_false (by omega)
            have hf2 : ¬ (f : Int) < (i : Int) := by omega
            have HN := Lib.hid (hh2 (by omega))
            clear h47 hh1 hh2 hown hb
            go_wp2
            go_roundg g
            case measure => omega
            case rel => exact ⟨xs, i + 1, i + 1, by omega, by go_num, by go_num, by omega, HN, HO.out, HB.out⟩
        · have e47 : ((b.toNat : Int) == 47) = false := by rw [byte47]; simpa using h47
          have e47n : ((b.toNat : Int) != 47) = true := bne_iff_ne.2 (fun e => h47 (UInt8.toNat_inj.1 (by show _ = 47; omega)))
          have e47' : ¬ b.toNat = 47 := fun e => h47 (UInt8.toNat_inj.1 e)
          have HN := Lib.hid (partsSt_go HP.out hlt HGB.out h47)
          clear h47 hown hb
          go_wp2
          go_roundg g
          case measure => omega
          case rel => exact ⟨xs, f, i + 1, by omega, rfl, by go_num, by omega, HN, HO.out, HB.out⟩
      · have hl1 : decide ((i : Int) < (s.size : Int)) = false := decide_eq_false (by omega)
        have hl2 : decide (i < s.size) = false := decide_eq_false hlt
        obtain ⟨hf, hh1, hh2⟩ := partsSt_hit HP.out hi (.inl (by omega))
        have h47 : True := trivial
        by_cases hfi : f < i
        · have hf1 : decide ((f : Int) < (i : Int)) = true := decide_eq_true (by omega)
          have hf2 : (f : Int) < (i : Int) := by omega
          have HN := Lib.hid (hh1 hfi)
          have hf3 : (f : Int) ≤ (i : Int) := by omega
          clear h47 hh1 hh2
          obtain ⟨A0, c0, rfl, hc0⟩ := own_letter hown
          go_wp2_with (at_builtin; refine wpList_append_one rfl _ _ 33 rfl elem_str xs.length (by simp) [.string (s.extract f i)] rfl HO.out HB.out rfl rfl (by simp [Value.oneCell']) (by unfold maxLen; omega) (by omega) ?_; rintro _ w2 hown2 hb2 - - ⟨g', c', rfl, hc', hg'⟩; have HO2 := Lib.hid hown2; have HB2 := Lib.hid hb2; clear hown2 hb2)
          go_roundg g
          case measure => omega
          case rel => exact ⟨xs ++ [s.extract f i], i + 1, i + 1, by omega, by go_num, by go_num, by simp; omega, Lib.hid (by rw [List.map_append]; exact HN.out), by rw [List.map_append]; exact HO2.out, HB2.out⟩
        · have hf1 : decide ((f : Int) < (i : Int)) = false := decide_eq_false (by omega)
          have hf2 : ¬ (f : Int) < (i : Int) := by omega
          have HN := Lib.hid (hh2 (by omega))
          clear h47 hh1 hh2 hown hb
          go_wp2
          go_roundg g
          case measure => omega
          case rel => exact ⟨xs, i + 1, i + 1, by omega, by go_num, by go_num, by omega, HN, HO.out, HB.out⟩
end Go.Proofs.YtbfcfjgcmideeaaGreatDoor
