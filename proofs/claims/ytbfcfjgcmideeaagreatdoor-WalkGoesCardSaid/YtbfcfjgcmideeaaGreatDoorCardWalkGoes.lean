/- The tied card of WalkGoes: the law answers true for every input. -/
import Derived.Test.YtbfcfjgcmideeaaGreatDoorLawGoes
import Derived.Test.YtbfcfjgcmideeaaGreatDoorM8
import Derived.Test.YtbfcfjgcmideeaaGreatDoorK3
import Derived.Test.YtbfcfjgcmideeaaGreatDoorRows
import Derived.Test.YtbfcfjgcmideeaaGreatDoorCards
import Derived.Test.YtbfcfjgcmideeaaGreatDoorTie
import Derived.ChangeMaps5
import Derived.ProofKit
import Derived.LaidMore
import Derived.Lay
import Derived.SevenTiedAt
import Derived.SizedLaws
namespace Go.Proofs.YtbfcfjgcmideeaaGreatDoor
open Go.ChangeShapes Go.WideShapes Go.ChangeAt Go.RowKit Go.Deep
set_option maxRecDepth 100000 in
theorem walkGoes_lifted (os : Os) (started : os.Started) (H : Type) (enc : TypeId × Value → H) :
    ReturnsInHanded {} Tryz.checked os 3 .any (fun w args => (Rows.walkGoesSpec.pre enc Tryz.prog Tryz.f3 Rows.walkGoesRow.domain false w args ∧ laidMetH Tryz.prog Rows.walkGoesRow.laid w) ∧ sizedMet enc Tryz.prog Tryz.f3 (OpenSpec.ofChange Rows.walkGoesSpec) false w args)
      (Rows.walkGoesSpec.post enc Tryz.prog Tryz.f3 false true false false) := by
  refine returnsInHanded_of_change_and (C := Tryz.checked) (X := fun w _ => laidMetH Tryz.prog Rows.walkGoesRow.laid w) (fun _ _ _ hh h => h.of_heap hh) own_knob started (by kernel_rfl) Tryz.func3
    (ChangeSpec.witness_shaped (enc := enc) (C := Tryz.checked) (os := os) (X := fun w _ => laidMetH Tryz.prog Rows.walkGoesRow.laid w) false (World.laidAll Tryz.prog os Rows.walkGoesRow.laid) #[.agg #[.slice none 0 0, .int .i64 0, .int .i64 0, .int .i64 0, .int .i64 0, .int .i64 0, .string ⟨#[]⟩, .int .i64 0]] 8 (World.laidAll_os _ _ _)
      (World.shaped_of_ZipB (by kernel_rfl) (by kernel_rfl)) (by kernel_rfl) (by kernel_rfl) (by kernel_rfl)
      (by rw [MakeChecks.laidMetH_plain _ _ _ (by kernel_rfl)]; exact laidMet_laidAll _ (by kernel_rfl) (by kernel_rfl))) ?_
  intro W base args ds gs before hval0 hW _ hsz0 hX _
  have hL : laidMet Tryz.prog Rows.walkGoesRow.laid W := by rw [← MakeChecks.laidMetH_plain _ _ _ (by kernel_rfl)]; exact hX
  have htab : TabW W := tabW_of (Lib.laidMet.reads hL (.tail _ (.tail _ (.head _))))
  have hval : ∀ (j : Nat) t v, Tryz.f3.params[j]? = some t → args[j]? = some v → Value.okWide Tryz.prog W .any base t v := hval0
  have hsz : (DataW.weightsEach Tryz.prog (Tryz.f3.params.toList ++ Rows.walkGoesSpec.plain.varTypes Tryz.prog) (ds ++ gs)).all (· ≤ reachBytes) = true := hsz0
  have hW' := hW
  obtain ⟨p, q, hA0, hV, rfl, hfz, hnd⟩ := hW
  have hA : DataW.TrodAll enc Tryz.prog W 0 (fun _ => true) true Tryz.f3.params.toList args.toList ds p := hA0
  rw [Tryz.params3] at hA hval hsz
  obtain ⟨v0, d0, rfl, rfl, h0⟩ := trodAll_one hA
  obtain ⟨rfl, rfl⟩ := trodVars_none hV
  have hwd0 : Weighed Tryz.prog 28 d0 := fun n hn => by
    have := List.all_eq_true.1 hsz n (DataW.weights_mem_each (j := 0) (t := 28) (d := d0) rfl rfl n hn)
    simpa using this
  obtain ⟨A0, c0, t0, u0, g0, m0, d0', s0, z0, rfl, hAt0, hF0, hX0⟩ := walking_open (hval 0 28 v0 rfl rfl) h0 hwd0
  have hlt : ∀ x ∈ p, x.block < W.heap.size := fun x hx => by simpa using hW'.lt x (by simpa using hx)
  refine (lawGoes_card t0 hF0 A0 c0 u0 g0 m0 d0' s0 z0 hX0 W hAt0 htab).mono fun e W' ⟨he, hb⟩ => ?_
  subst he
  have hT2 : ∀ sp : Nat → Bool, (∀ x ∈ p, sp x.block = true) → DataW.TrodAll enc Tryz.prog W' 0 sp true _ _ _ _ := fun sp hsp =>
    trodAll_stays laid_out hb (of_decide_eq_true (by kernel_rfl)) hA hlt hsp
  refine ⟨_, rfl, post_of_below (pa := p) (pv := []) hW' (fun _ _ _ => trodAll_mk1 (shut_bool Tryz.underlying4 true)) (fun sp h => hT2 sp fun x hx => h x (by simpa using hx)) (fun _ _ => rfl) rfl hb (ok_one (by kernel_rfl) rfl (okWide_bool_mk Tryz.underlying4 true))⟩
set_option maxHeartbeats 20000000 in
set_option maxRecDepth 100000 in
theorem walkGoes_facts : joinedFacts Tryz.pinned.checked.prog 3 Tryz.f3 Rows.walkGoesSpec Rows.walkGoesRow = true := by
  unfold joinedFacts
  simp only [Bool.and_eq_true]
  repeat' apply And.intro
  all_goals as_aux_lemma => kernel_rfl
theorem walkGoes_row : Rows.WalkGoesSaid :=
  OpenClaim.holds_of_wide 3 Tryz.f3 rfl rfl rfl rfl rfl rfl rfl ⟨rfl, rfl, rfl, rfl, rfl⟩ rfl rfl rfl rfl rfl (by kernel_rfl) Tryz.func3 walkGoes_facts
    (of_decide_eq_true (by kernel_rfl)) (by unfold Func.isWrapper; first | (rw [if_pos (by decide +kernel)]; kernel_rfl) | (rw [if_neg (by decide +kernel)]; exact ⟨rfl, rfl⟩))
    (fun os started H enc _ => walkGoes_lifted os started H enc)
set_option maxHeartbeats 20000000 in
set_option maxRecDepth 100000 in
theorem walkGoes_fact1 : Rows.walkGoesRow.wfByText (OpenSpec.ofChange Rows.walkGoesSpec) = true := by kernel_rfl
set_option maxHeartbeats 20000000 in
set_option maxRecDepth 100000 in
theorem walkGoes_fact2 : false = Tryz.pinned.checked.prog.looks [] := by kernel_rfl
set_option maxHeartbeats 20000000 in
set_option maxRecDepth 100000 in
theorem walkGoes_fact3 : false = Rows.walkGoesRow.goesBy Tryz.pinned.checked.prog := by kernel_rfl
set_option maxHeartbeats 20000000 in
set_option maxRecDepth 100000 in
theorem walkGoes_fact4 : Tryz.prog.funcNamed "toolchest/toolchestlaw18.WalkGoes" = some 3 := by kernel_rfl
set_option maxHeartbeats 20000000 in
set_option maxRecDepth 100000 in
theorem walkGoes_holds : Rows.WalkGoesCardSaid :=
  Claim7.holds_tied_plain_at .later [] [.data, .data, .data, .data, .pinned] true _ false walkGoes_row (fun _ h => by cases h) walkGoes_fact1 (fun _ h => by cases h) walkGoes_row_tie rfl ⟨rfl, rfl⟩ (by as_aux_lemma => kernel_rfl) rfl
    (fun f fn hf hfn => by
      obtain rfl : f = 3 := Option.some.inj (walkGoes_fact4.symm.trans hf) |>.symm
      obtain rfl : fn = Tryz.f3 := (Option.some.inj (Tryz.func3.symm.trans hfn)).symm
      exact ⟨walkGoes_fact2, fun j t ht => by
        rw [Tryz.params3] at ht
        have hm : t ∈ [28] := by simpa using Array.mem_of_getElem? ht
        have hall : ([28].all fun u => !Tryz.prog.wantsStandIn u) = true := by as_aux_lemma => kernel_rfl
        exact (show Tryz.prog.wantsStandIn t = false by simpa using List.all_eq_true.1 hall t hm)⟩)
    walkGoes_fact3
#print axioms walkGoes_holds
end Go.Proofs.YtbfcfjgcmideeaaGreatDoor
