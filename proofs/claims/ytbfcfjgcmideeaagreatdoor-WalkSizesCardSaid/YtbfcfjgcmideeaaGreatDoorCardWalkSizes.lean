/- The tied card of WalkSizes: the law answers true for every input. -/
import Derived.Test.YtbfcfjgcmideeaaGreatDoorLawSizes
import Derived.Test.YtbfcfjgcmideeaaGreatDoorM8
import Derived.Test.YtbfcfjgcmideeaaGreatDoorK3
import Derived.Test.YtbfcfjgcmideeaaGreatDoorOpenSteps
import Derived.Test.YtbfcfjgcmideeaaGreatDoorRows
import Derived.Test.YtbfcfjgcmideeaaGreatDoorCards
import Derived.Test.YtbfcfjgcmideeaaGreatDoorTie
import Derived.ChangeMaps5
import Derived.ProofKit
import Derived.LaidMore
import Derived.Lay
import Derived.SevenTiedAt
import Derived.SizedLaws
namespace Go.Proofs.YtbfcfjgcmideeaaGreatDoor
open Go.ChangeShapes Go.WideShapes Go.ChangeAt Go.RowKit Go.Deep
set_option maxRecDepth 100000 in
theorem walkSizes_lifted (os : Os) (started : os.Started) (H : Type) (enc : TypeId × Value → H) :
    ReturnsInHanded {} Tryz.checked os 4 .any (fun w args => (Rows.walkSizesSpec.pre enc Tryz.prog Tryz.f4 Rows.walkSizesRow.domain false w args ∧ laidMetH Tryz.prog Rows.walkSizesRow.laid w) ∧ sizedMet enc Tryz.prog Tryz.f4 (OpenSpec.ofChange Rows.walkSizesSpec) false w args)
      (Rows.walkSizesSpec.post enc Tryz.prog Tryz.f4 false true false false) := by
  refine returnsInHanded_of_change_and (C := Tryz.checked) (X := fun w _ => laidMetH Tryz.prog Rows.walkSizesRow.laid w) (fun _ _ _ hh h => h.of_heap hh) own_knob started (by kernel_rfl) Tryz.func4
    (ChangeSpec.witness_shaped (enc := enc) (C := Tryz.checked) (os := os) (X := fun w _ => laidMetH Tryz.prog Rows.walkSizesRow.laid w) false (World.laidAll Tryz.prog os Rows.walkSizesRow.laid) #[.agg #[.slice none 0 0, .int .i64 0], .slice none 0 0] 8 (World.laidAll_os _ _ _)
      (World.shaped_of_ZipB (by kernel_rfl) (by kernel_rfl)) (by kernel_rfl) (by kernel_rfl) (by kernel_rfl)
      (by rw [MakeChecks.laidMetH_plain _ _ _ (by kernel_rfl)]; exact laidMet_laidAll _ (by kernel_rfl) (by kernel_rfl))) ?_
  intro W base args ds gs before hval0 hW _ hsz0 hX _
  have hL : laidMet Tryz.prog Rows.walkSizesRow.laid W := by rw [← MakeChecks.laidMetH_plain _ _ _ (by kernel_rfl)]; exact hX
  have htab : TabW W := tabW_of (Lib.laidMet.reads hL (.tail _ (.tail _ (.head _))))
  have hval : ∀ (j : Nat) t v, Tryz.f4.params[j]? = some t → args[j]? = some v → Value.okWide Tryz.prog W .any base t v := hval0
  have hsz : (DataW.weightsEach Tryz.prog (Tryz.f4.params.toList ++ Rows.walkSizesSpec.plain.varTypes Tryz.prog) (ds ++ gs)).all (· ≤ reachBytes) = true := hsz0
  have hW' := hW
  obtain ⟨p, q, hA0, hV, rfl, hfz, hnd⟩ := hW
  have hA : DataW.TrodAll enc Tryz.prog W 0 (fun _ => true) true Tryz.f4.params.toList args.toList ds p := hA0
  rw [Tryz.params4] at hA hval hsz
  obtain ⟨v0, v1, d0, d1, p0, p1, rfl, rfl, rfl, h0, h1⟩ := trodAll_two hA
  obtain ⟨rfl, rfl⟩ := trodVars_none hV
  have hwd0 : Weighed Tryz.prog 24 d0 := fun n hn => by
    have := List.all_eq_true.1 hsz n (DataW.weights_mem_each (j := 0) (t := 24) (d := d0) rfl rfl n hn)
    simpa using this
  obtain ⟨A0, c0, t0, rfl, hAt0, hF0⟩ := tree_open (hval 0 24 v0 rfl rfl) h0 hwd0
  have hwd1 : Weighed Tryz.prog 32 d1 := fun n hn => by
    have := List.all_eq_true.1 hsz n (DataW.weights_mem_each (j := 1) (t := 32) (d := d1) rfl rfl n hn)
    simpa using this
  obtain ⟨A1, c1, l1, rfl, hAt1, hF1⟩ := steps_open (hval 1 32 v1 rfl rfl) h1 hwd1
  have hlt : ∀ x ∈ p0 ++ p1, x.block < W.heap.size := fun x hx => by simpa using hW'.lt x (by simpa using hx)
  refine (lawSizes_card t0 hF0 A0 c0 l1 hF1 A1 c1 W hAt0 hAt1 htab).mono fun e W' ⟨he, hb⟩ => ?_
  subst he
  have hT2 : ∀ sp : Nat → Bool, (∀ x ∈ p0 ++ p1, sp x.block = true) → DataW.TrodAll enc Tryz.prog W' 0 sp true _ _ _ _ := fun sp hsp =>
    trodAll_stays laid_out hb (of_decide_eq_true (by kernel_rfl)) hA hlt hsp
  refine ⟨_, rfl, post_of_below (pa := p0 ++ p1) (pv := []) hW' (fun _ _ _ => trodAll_mk1 (shut_bool Tryz.underlying4 true)) (fun sp h => hT2 sp fun x hx => h x (by simpa using hx)) (fun _ _ => rfl) rfl hb (ok_one (by kernel_rfl) rfl (okWide_bool_mk Tryz.underlying4 true))⟩
set_option maxHeartbeats 20000000 in
set_option maxRecDepth 100000 in
theorem walkSizes_facts : joinedFacts Tryz.pinned.checked.prog 4 Tryz.f4 Rows.walkSizesSpec Rows.walkSizesRow = true := by
  unfold joinedFacts
  simp only [Bool.and_eq_true]
  repeat' apply And.intro
  all_goals as_aux_lemma => kernel_rfl
theorem walkSizes_row : Rows.WalkSizesSaid :=
  OpenClaim.holds_of_wide 4 Tryz.f4 rfl rfl rfl rfl rfl rfl rfl ⟨rfl, rfl, rfl, rfl, rfl⟩ rfl rfl rfl rfl rfl (by kernel_rfl) Tryz.func4 walkSizes_facts
    (of_decide_eq_true (by kernel_rfl)) (by unfold Func.isWrapper; first | (rw [if_pos (by decide +kernel)]; kernel_rfl) | (rw [if_neg (by decide +kernel)]; exact ⟨rfl, rfl⟩))
    (fun os started H enc _ => walkSizes_lifted os started H enc)
set_option maxHeartbeats 20000000 in
set_option maxRecDepth 100000 in
theorem walkSizes_fact1 : Rows.walkSizesRow.wfByText (OpenSpec.ofChange Rows.walkSizesSpec) = true := by kernel_rfl
set_option maxHeartbeats 20000000 in
set_option maxRecDepth 100000 in
theorem walkSizes_fact2 : false = Tryz.pinned.checked.prog.looks [] := by kernel_rfl
set_option maxHeartbeats 20000000 in
set_option maxRecDepth 100000 in
theorem walkSizes_fact3 : false = Rows.walkSizesRow.goesBy Tryz.pinned.checked.prog := by kernel_rfl
set_option maxHeartbeats 20000000 in
set_option maxRecDepth 100000 in
theorem walkSizes_fact4 : Tryz.prog.funcNamed "toolchest/toolchestlaw18.WalkSizes" = some 4 := by kernel_rfl
set_option maxHeartbeats 20000000 in
set_option maxRecDepth 100000 in
theorem walkSizes_holds : Rows.WalkSizesCardSaid :=
  Claim7.holds_tied_plain_at .later [] [.data, .data, .data, .data, .pinned] true _ false walkSizes_row (fun _ h => by cases h) walkSizes_fact1 (fun _ h => by cases h) walkSizes_row_tie rfl ⟨rfl, rfl⟩ (by as_aux_lemma => kernel_rfl) rfl
    (fun f fn hf hfn => by
      obtain rfl : f = 4 := Option.some.inj (walkSizes_fact4.symm.trans hf) |>.symm
      obtain rfl : fn = Tryz.f4 := (Option.some.inj (Tryz.func4.symm.trans hfn)).symm
      exact ⟨walkSizes_fact2, fun j t ht => by
        rw [Tryz.params4] at ht
        have hm : t ∈ [24, 32] := by simpa using Array.mem_of_getElem? ht
        have hall : ([24, 32].all fun u => !Tryz.prog.wantsStandIn u) = true := by as_aux_lemma => kernel_rfl
        exact (show Tryz.prog.wantsStandIn t = false by simpa using List.all_eq_true.1 hall t hm)⟩)
    walkSizes_fact3
#print axioms walkSizes_holds
end Go.Proofs.YtbfcfjgcmideeaaGreatDoor
