/- paths.In: where a path leads. -/
import Derived.Test.YtbfcfjgcmideeaaGreatDoorInRoundA
import Derived.Test.YtbfcfjgcmideeaaGreatDoorInRoundB
import Derived.Test.YtbfcfjgcmideeaaGreatDoorInRoundC
import Derived.Test.YtbfcfjgcmideeaaGreatDoorInRoundD
import Derived.Test.YtbfcfjgcmideeaaGreatDoorInRoundE
namespace Go.Proofs.YtbfcfjgcmideeaaGreatDoor
open Go.RowKit
attribute [local go_sem] Later.cell_eq
set_option maxHeartbeats 4000000 in
set_option maxRecDepth 100000 in
theorem in_path_calls (t : TTree) (hF : t.Fits) (hT : TreeOK t) (u g m d : Int) (hd : DirAt t d) (p : ByteArray) (follow : Bool) (A : Option Addr) (c : Nat) (w : World) (hA : NodesAt w A t.nodes) :
    Calls Tryz.prog 124 #[.agg #[.slice A t.nodes.length c, .int .i64 t.now], .agg #[.int .i64 u, .int .i64 g, .int .i64 m, .int .i64 d], .string p, .bool follow] w fun e w' => e = .returned (.tuple #[(inS t u g d p.data.toList follow).1.val, .int .i64 (inS t u g d p.data.toList follow).2]) ∧ Below w.heap.size w w' := by
  have hpl : p.data.toList.length = p.size := Array.length_toList
  have HF := Lib.hid hF
  have HT := Lib.hid hT
  have HA := Lib.hid hA
  have HD := Lib.hid hd
  clear hF hT hA hd
  unfold inS
  by_cases h0 : p.size = 0
  · have h1 : p.toList = [] := (toList_nil p).mpr h0
    rw [if_pos (List.eq_nil_of_length_eq_zero (by omega))]
    have h8 : ((((w.alloc (.cells #[.slice A t.nodes.length c, .int .i64 t.now] 24)).alloc (.cells #[.int .i64 u, .int .i64 g, .int .i64 m, .int .i64 d] 26)).alloc (.cells noPlace.cells 114))).heap[w.heap.size + 1 + 1]? = some (.cells noPlace.cells 114 (0, 0)) := heap_alloc_at (by simp) _
    have hb3 : Below w.heap.size w (((w.alloc (.cells #[.slice A t.nodes.length c, .int .i64 t.now] 24)).alloc (.cells #[.int .i64 u, .int .i64 g, .int .i64 m, .int .i64 d] 26)).alloc (.cells noPlace.cells 114)) := below_alloc (below_alloc (below_alloc (Below.refl _ _) _) _) _
    go_enter Tryz.func124, Tryz.ntmps124
    go_wp2
    go_step3
    go_wp2_with (first | refine wpList_store_rowTo rfl 114 _ _ rfl rfl (w.heap.size + 1 + 1) noPlace.cells rfl rfl 114 _ h8 (by kernel_rfl) rfl (by simp [noPlace, PlaceV.cells, Value.oneCell']) ?_)
    rw [Exit.noGoto_ret]
    have h9 := setRow_heap _ (w.heap.size + 1 + 1) _ noPlace.cells _ _ h8
    have hL := run_loadVar_row (P := Tryz.prog) _ _ _ 114 _ _ _ h9 Tryz.underlying114 rfl (by kernel_rfl)
    refine bodyPost_ret (v := .tuple #[noPlace.val, .int .i64 6]) (results_cell_tmp rfl rfl rfl hL) rfl ?_
    exact ⟨rfl, below_setRow hb3 (by omega) _⟩
  · have h1 : ¬ p.toList = [] := fun e => h0 ((toList_nil p).mp e)
    have h2 : p.toList.isEmpty = false := by simpa using h1
    rw [if_neg (fun e => h0 (by rw [← hpl, e]; rfl))]
    cases hb : badS p.data.toList with
    | true =>
      have HB := Lib.hid hb
      clear hb
      have h8 : ((((w.alloc (.cells #[.slice A t.nodes.length c, .int .i64 t.now] 24)).alloc (.cells #[.int .i64 u, .int .i64 g, .int .i64 m, .int .i64 d] 26)).alloc (.cells noPlace.cells 114))).heap[w.heap.size + 1 + 1]? = some (.cells noPlace.cells 114 (0, 0)) := heap_alloc_at (by simp) _
      have hb3 : Below w.heap.size w (((w.alloc (.cells #[.slice A t.nodes.length c, .int .i64 t.now] 24)).alloc (.cells #[.int .i64 u, .int .i64 g, .int .i64 m, .int .i64 d] 26)).alloc (.cells noPlace.cells 114)) := below_alloc (below_alloc (below_alloc (Below.refl _ _) _) _) _
      go_enter Tryz.func124, Tryz.ntmps124
      go_wp2
      go_step3
      go_wp2_with (first | (go_at_call 190; refine (bad_calls p _).mono ?_; rintro _ w1 ⟨rfl, hw1⟩; obtain rfl := hw1.symm; rw [HB.out]) | refine wpList_store_rowTo rfl 114 _ _ rfl rfl (w.heap.size + 1 + 1) noPlace.cells rfl rfl 114 _ h8 (by kernel_rfl) rfl (by simp [noPlace, PlaceV.cells, Value.oneCell']) ?_)
      rw [Exit.noGoto_ret]
      have h9 := setRow_heap _ (w.heap.size + 1 + 1) _ noPlace.cells _ _ h8
      have hL := run_loadVar_row (P := Tryz.prog) _ _ _ 114 _ _ _ h9 Tryz.underlying114 rfl (by kernel_rfl)
      refine bodyPost_ret (v := .tuple #[noPlace.val, .int .i64 13]) (results_cell_tmp rfl rfl rfl hL) rfl ?_
      exact ⟨rfl, below_setRow hb3 (by omega) _⟩

    | false =>
      rw [if_neg (by simp)]
      obtain ⟨R, hR⟩ : ∃ x, x = inGo t u g follow 20000 (if p.data.toList.head? = some 47 then 1 else d) (partsOf p.data.toList) (slashEnd p.data.toList) 0 := ⟨_, rfl⟩
      rw [← hR]
      have HRR := Lib.hid hR.symm
      clear hR
      have HB := Lib.hid hb
      clear hb
      go_enter Tryz.func124, Tryz.ntmps124
      go_wp2
      go_step3
      go_upto_region 6 with (go_at_call 190; refine (bad_calls p _).mono ?_; rintro _ w1 ⟨rfl, hw1⟩; obtain rfl := hw1.symm; rw [HB.out])
      rename_i Q2 K2 a2
      have hq2 : ∀ e a w0, bodyPost Tryz.prog Tryz.f124 (fun e w' => e = .returned (.tuple #[R.1.val, .int .i64 R.2]) ∧ Below w.heap.size w w') e a w0 → Q2 e a w0 := fun _ _ _ h => h
      clear_value Q2
      have HQ2 := Lib.hid hq2
      clear hq2
      have hpb : p.size ≤ 1024 := by
        have := HB.out
        unfold badS at this
        rw [Bool.or_eq_false_iff, hpl] at this
        have := of_decide_eq_false this.1
        omega
      have HI := Lib.hid (inBase_made w t A c u g m d HA.out)
      have HW : Hid (WayRow ((((w.alloc (.cells #[.slice A t.nodes.length c, .int .i64 t.now] 24)).alloc (.cells #[.int .i64 u, .int .i64 g, .int .i64 m, .int .i64 d] 26)).alloc (.cells noPlace.cells 114)).alloc (.cells #[.int .i64 d, .slice none 0 0, .bool false, .int .i64 0] 240)) (w.heap.size + 1 + 1 + 1) d (.slice none 0 0) false 0) := Lib.hid (heap_alloc_at (by simp) _)
      have HBW : Hid (Below w.heap.size w ((((w.alloc (.cells #[.slice A t.nodes.length c, .int .i64 t.now] 24)).alloc (.cells #[.int .i64 u, .int .i64 g, .int .i64 m, .int .i64 d] 26)).alloc (.cells noPlace.cells 114)).alloc (.cells #[.int .i64 d, .slice none 0 0, .bool false, .int .i64 0] 240))) := Lib.hid (below_alloc (below_alloc (below_alloc (below_alloc (Below.refl _ _) _) _) _) _)
      obtain ⟨w3, hw3⟩ : ∃ x, x = (((w.alloc (.cells #[.slice A t.nodes.length c, .int .i64 t.now] 24)).alloc (.cells #[.int .i64 u, .int .i64 g, .int .i64 m, .int .i64 d] 26)).alloc (.cells #[.int .i64 0, .string ⟨#[]⟩, .int .i64 0, .bool false] 114)).alloc (.cells #[.int .i64 d, .slice none 0 0, .bool false, .int .i64 0] 240) := ⟨_, rfl⟩
      change Hid (InBase ((((w.alloc _).alloc _).alloc (.cells #[.int .i64 0, .string ⟨#[]⟩, .int .i64 0, .bool false] 114)).alloc _) _ _ _ _ _ _ _ _ _ _) at HI
      change Hid (WayRow ((((w.alloc _).alloc _).alloc (.cells #[.int .i64 0, .string ⟨#[]⟩, .int .i64 0, .bool false] 114)).alloc _) _ _ _ _ _) at HW
      change Hid (Below _ w ((((w.alloc _).alloc _).alloc (.cells #[.int .i64 0, .string ⟨#[]⟩, .int .i64 0, .bool false] 114)).alloc _)) at HBW
      rw [← hw3] at HI HW HBW
      rw [← hw3]
      obtain ⟨bw, hbw⟩ : ∃ x, x = w.heap.size + 1 + 1 + 1 := ⟨_, rfl⟩
      rw [← hbw] at HW
      rw [← hbw]
      obtain ⟨b2, hb2⟩ : ∃ x, x = w.heap.size + 1 + 1 := ⟨_, rfl⟩
      rw [← hb2] at HI
      rw [← hb2]
      obtain ⟨b1, hb1⟩ : ∃ x, x = w.heap.size + 1 := ⟨_, rfl⟩
      rw [← hb1] at HI
      rw [← hb1]
      obtain ⟨b0, hb0⟩ : ∃ x, x = w.heap.size := ⟨_, rfl⟩
      rw [← hb0] at HI
      rw [← hb0]
      clear hw3
      have hord : b0 ≠ bw ∧ b1 ≠ bw ∧ b2 ≠ bw ∧ w.heap.size ≤ b2 ∧ w.heap.size ≤ bw := by omega
      clear hbw hb2 hb1 hb0
      have hp1 : 0 < p.size := by omega
      have hp6 : p.size ≤ 1000000 := by omega
      go_upto_region 7 with (go_at_call 191; refine (goes_calls p hp1 hp6 bw d (.slice none 0 0) [] (by simp) false 0 _ HW.out (StrList.nil _ _)).mono ?_; rintro _ w4 ⟨v4, ⟨rfl, hrow4, hv4⟩, hg4⟩)
      have HG4 := Lib.hid hg4
      have HR4 := Lib.hid hrow4
      have HV4 := Lib.hid hv4
      have k2 := hrow4.c2
      have f2 := hrow4.fr 2
      clear hg4 hrow4 hv4
      go_upto_region 8 with (go_at_call 192; refine (Tryz.strings_HasSuffix p ⟨#[47]⟩ _ (by omega)).mono ?_; rintro _ w5 ⟨rfl, hw5⟩; obtain rfl : w4 = w5 := hw5.symm)
      go_wp2
      go_step3
      go_wp2
      have hstart : Hid ((partsOf p.data.toList).length ≤ 1025) := Lib.hid (Nat.le_trans (parts_len p) (by omega))
      have HD1 : Hid (DirAt t (if p.data.toList.head? = some 47 then 1 else d)) := Lib.hid (by split; exact dirAt_root HT.out; exact HD.out)
      go_loopg [] 20000 (fun gk wr => ∃ (a : Int) (v : Value) (rest : List (List UInt8)) (dirs : Bool) (hops : Nat), Hid (WayRow wr bw a v dirs hops) ∧ Hid (StrList wr bw v rest) ∧ Hid (DirAt t a) ∧ Hid (inGo t u g follow gk a rest dirs hops = R) ∧ hops ≤ 16 ∧ (16 - hops) * 1026 + rest.length < gk ∧ rest.length + (16 - hops) * 1026 ≤ 20000 ∧ Hid (w3.grownBy wr (some bw)))
      case atStart =>
        refine ⟨_, v4, partsOf p.data.toList, _, 0, Lib.hid (HR4.out.s2 _), Lib.hid ?_, HD1, HRR, by omega, by have := hstart.out; omega, by have := hstart.out; omega, Lib.hid (grown_trans HG4.out (grown_set _ _ _ _))⟩
        have := HV4.out.far 2 (.bool (Lib.hasSuffix p.data.toList [47]))
        rwa [List.append_nil] at this
      case round =>
        clear k2 f2 HR4 HV4 HG4 HRR HD1 hstart HW
        obtain ⟨a, v, rest, dirs, hops, HWR, HSL, HDA, HGO, hh, hm, hrl, HG⟩ := hrel
        have k1 := HWR.out.c1
        cases gk with
        | zero => exact absurd hm (Nat.not_lt_zero _)
        | succ gk =>
        have HBR : Hid (Below w.heap.size w wr) := Lib.hid (HBW.out.grown HG.out HBW.out.size (fun k hk => by cases hk; exact hord.2.2.2.2))
        have HIR := Lib.hid (HI.out.grown HG.out hord.1 hord.2.1 hord.2.2.1 HA.out HBW.out hord.2.2.2.2)
        clear k1
        by_cases hc : rest = [] ∨ ∃ s r, rest = s :: r ∧ (mayB (t.at a) u g 1 = false ∨ 64 < s.length ∨ s = [46] ∨ s = [46, 46])
        · exact in_round_a HF HT HA HQ2 HBW HI hord (by assumption) (by assumption) (by assumption) HWR HDA hh HG HBR HIR HSL hrl HGO hm (Lib.hid hc)
        · cases rest with
          | nil => exact absurd (Or.inl rfl) hc
          | cons s rest =>
            have HC : Hid (mayB (t.at a) u g 1 = true ∧ ¬ 64 < s.length ∧ s ≠ [46] ∧ s ≠ [46, 46]) := Lib.hid ⟨by cases h : mayB (t.at a) u g 1 with | true => rfl | false => exact absurd (Or.inr ⟨s, rest, rfl, Or.inl h⟩) hc, fun h => hc (.inr ⟨s, rest, rfl, .inr (.inl h)⟩), fun h => hc (.inr ⟨s, rest, rfl, .inr (.inr (.inl h))⟩), fun h => hc (.inr ⟨s, rest, rfl, .inr (.inr (.inr h))⟩)⟩
            clear hc
            by_cases hd : tIn t a ⟨s.toArray⟩ = 0
            · exact in_round_b HF HT HA HQ2 HBW HI hord (by assumption) (by assumption) (by assumption) HWR HDA hh HG HBR HIR HSL hrl HGO hm HC (Lib.hid hd)
            · by_cases hl : ((t.at (tIn t a ⟨s.toArray⟩)).kind = 3 ∧ (rest ≠ [] ∨ follow = true ∨ dirs = true))
              · exact in_round_d HF HT HA HQ2 HBW HI hord (by assumption) (by assumption) (by assumption) HWR HDA hh HG HBR HIR HSL hrl HGO hm HC (Lib.hid ⟨hd, hl⟩)
              · by_cases h3 : (t.at (tIn t a ⟨s.toArray⟩)).kind = 3
                · exact in_round_e HF HT HA HQ2 HBW HI hord (by assumption) (by assumption) (by assumption) HWR HDA hh HG HBR HIR HSL hrl HGO hm HC (Lib.hid ⟨hd, h3, Classical.byContradiction fun h => hl ⟨h3, Or.inl h⟩, by cases hf : follow with | false => rfl | true => exact absurd ⟨h3, Or.inr (Or.inl hf)⟩ hl, by cases hf : dirs with | false => rfl | true => exact absurd ⟨h3, Or.inr (Or.inr hf)⟩ hl⟩)
                · exact in_round_c HF HT HA HQ2 HBW HI hord (by assumption) (by assumption) (by assumption) HWR HDA hh HG HBR HIR HSL hrl HGO hm HC (Lib.hid ⟨hd, h3⟩)
end Go.Proofs.YtbfcfjgcmideeaaGreatDoor
