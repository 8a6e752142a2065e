/- The row of TreeSpoils: the law answers true for every input. -/
import Derived.Test.YtfoocjdnolplpaaSpoils
import Derived.Test.YtfoocjdnolplpaaRow
import Derived.Test.YtfoocjdnolplpaaRows
namespace Go.Proofs.Ytfoocjdnolplpaa
open Go.ChangeShapes Go.WideShapes Go.ChangeAt Go.RowKit Go.Deep
theorem wf_u16 {q : Int} (h : (Lit.int .u16 q).wf = true) : 0 ≤ q ∧ q ≤ 65535 := by
  simp [Lit.wf, IntKind.min, IntKind.max, IntKind.signed, IntKind.bits] at h
  omega
theorem wf_i8 {q : Int} (h : (Lit.int .i8 q).wf = true) : -128 ≤ q ∧ q ≤ 127 := by
  simp [Lit.wf, IntKind.min, IntKind.max, IntKind.signed, IntKind.bits] at h
  omega
set_option maxRecDepth 100000 in
theorem treeSpoils_lifted (os : Os) (started : os.Started) (H : Type) (enc : TypeId × Value → H) :
    ReturnsInHanded {} Try.checked os 5 .any (Rows.treeSpoilsSpec.pre6 enc Try.prog Try.f5 Rows.treeSpoilsRow.domain false) (Rows.treeSpoilsSpec.post enc Try.prog Try.f5 false true false false) := by
  refine returnsInHanded_of_change_sized (C := Try.checked) own_knob started (by kernel_rfl) Try.func5
    (ChangeSpec.witness6 (enc := enc) (C := Try.checked) false ⟨#[], #[.agg #[.slice none 0 0, .int .i64 0], .int .u16 0, .int .i8 0], []⟩ 8 (by kernel_rfl) (by kernel_rfl) (by kernel_rfl) (by kernel_rfl)) ?_
  intro W base args ds gs before hval0 hW hcnd hsz0 _
  have hval : ∀ (j : Nat) t v, Try.f5.params[j]? = some t → args[j]? = some v → Value.okWide Try.prog W .any base t v := hval0
  have hsz : (DataW.weightsEach Try.prog (Try.f5.params.toList ++ Rows.treeSpoilsSpec.plain.varTypes Try.prog) (ds ++ gs)).all (· ≤ reachBytes) = true := hsz0
  have hW' := hW
  obtain ⟨p, q, hA0, hV, rfl, hfz, hnd⟩ := hW
  have hA : DataW.TrodAll enc Try.prog W 0 (fun _ => true) true Try.f5.params.toList args.toList ds p := hA0
  rw [Try.params5] at hA hval hsz
  obtain ⟨v0, v1, v2, d0, d1, d2, p0, p1, p2, rfl, rfl, rfl, h0, h1, h2⟩ := trodAll_three hA
  obtain ⟨rfl, rfl⟩ := trodVars_none hV
  have hwd : Weighed Try.prog 24 d0 := fun n hn => by
    have := List.all_eq_true.1 hsz n (DataW.weights_mem_each (j := 0) (t := 24) (d := d0) rfl rfl n hn)
    simpa using this
  obtain ⟨A, c, t, rfl, hAt, hF⟩ := tree_open (hval 0 24 v0 rfl rfl) h0 hwd
  obtain ⟨nn, rfl, -, -, hwn⟩ := open_int Try.underlying46 (hval 1 46 v1 rfl rfl) h1
  obtain ⟨by_, rfl, -, -, hwb⟩ := open_int Try.underlying47 (hval 2 47 v2 rfl rfl) h2
  obtain ⟨n0, n1⟩ := wf_u16 hwn
  obtain ⟨b0, b1⟩ := wf_i8 hwb
  have hlt : ∀ x ∈ p0 ++ p1 ++ p2, x.block < W.heap.size := fun x hx => by simpa using hW'.lt x (by simpa using hx)
  refine (spoils_calls t hF nn by_ n0 n1 b0 b1 A c W hAt).mono fun e W' ⟨he, hb⟩ => ?_
  subst he
  have hT2 : ∀ sp : Nat → Bool, (∀ x ∈ p0 ++ p1 ++ p2, sp x.block = true) → DataW.TrodAll enc Try.prog W' 0 sp true _ _ _ _ := fun sp hsp =>
    trodAll_stays laid_out hb (of_decide_eq_true (by kernel_rfl)) hA hlt hsp
  refine ⟨_, rfl, post_of_below (pa := p0 ++ p1 ++ p2) (pv := []) hW' (fun _ _ _ => trodAll_mk1 (shut_bool Try.underlying4 true)) (fun sp h => hT2 sp fun x hx => h x (by simpa using hx)) (fun _ _ => rfl) rfl hb (ok_one (by kernel_rfl) rfl (okWide_bool_mk Try.underlying4 true))⟩
theorem treeSpoils_holds : Rows.TreeSpoilsSaid :=
  OpenClaim.holds_of_wide 5 Try.f5 rfl rfl rfl rfl rfl rfl rfl ⟨rfl, rfl, rfl, rfl, rfl⟩ rfl rfl rfl rfl rfl (by kernel_rfl) Try.func5 (by kernel_rfl)
    (of_decide_eq_true (by kernel_rfl)) (by unfold Func.isWrapper; first | (rw [if_pos (by decide +kernel)]; kernel_rfl) | (rw [if_neg (by decide +kernel)]; exact ⟨rfl, rfl⟩))
    (fun os started H enc _ => treeSpoils_lifted os started H enc)
#print axioms treeSpoils_holds
end Go.Proofs.Ytfoocjdnolplpaa
