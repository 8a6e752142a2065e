/- lives of the walks' laws. -/
import Derived.Test.YtdceechakocgfaaDoorW5
namespace Go.Proofs.YtdceechakocgfaaDoor
open Go.RowKit
attribute [local go_sem] Later.cell_eq
theorem small_sizes (S : Option Addr) (cs : Nat) (A : Option Addr) (c : Nat) (w : World) (hA : NodesAt w A smallT.nodes) (hS : StepsAt w S smallL) :
    Calls Tryd.prog 10 #[.agg #[.slice A smallT.nodes.length c, .int .i64 smallT.now], .slice S 5 cs] w fun e w' => ∃ g, (e = .returned (.slice (some ⟨g, 0, none⟩) 5 5) ∧ IntRow w' g [0, 0, 5, 5, 5]) ∧ Below w.heap.size w w' := by
  refine (sz_calls smallT small_fits A c w hA smallL (by decide) S cs hS ?_).mono ?_
  · intro x hx
    simp only [smallL, List.mem_cons, List.not_mem_nil, or_false] at hx
    rcases hx with rfl | rfl | rfl | rfl | rfl <;> exact ⟨by decide, by unfold I64; decide, by unfold I64; decide⟩
  · rintro e w' ⟨g, ⟨rfl, -, h⟩, hb⟩
    rw [small_sz] at h
    exact ⟨g, ⟨rfl, h⟩, hb⟩
theorem steps_some {w : World} {A : Option Addr} {l : List TStep} {x : TStep} (h : StepsAt w A l) (hx : l[0]? = some x) : ∃ g o, A = some ⟨g, o, none⟩ ∧ ∀ i x, l[i]? = some x → w.cell? ⟨g, o + i * 4, none⟩ = some (.string x.path) ∧ w.cell? ⟨g, o + i * 4 + 1, none⟩ = some (.int .i64 x.node) ∧ w.cell? ⟨g, o + i * 4 + 2, none⟩ = some (.int .i64 x.depth) ∧ w.cell? ⟨g, o + i * 4 + 3, none⟩ = some (.bool x.after) := by
  obtain ⟨g, o, rfl, -⟩ := h 0 x hx
  refine ⟨g, o, rfl, fun i x hi => ?_⟩
  obtain ⟨g', o', he, h1⟩ := h i x hi
  cases he
  exact h1
set_option maxHeartbeats 4000000 in
set_option maxRecDepth 100000 in
theorem lives18_calls (w : World) :
    Calls Tryd.prog 6 #[] w fun e w' => e = .returned (.bool true) ∧ Below w.heap.size w w' := by
  go_enter Tryd.func6, Tryd.ntmps6
  go_upto_region 2 with (go_at_call 12; refine (small_calls _).mono ?_; rintro _ w1 ⟨A, c, ⟨rfl, hA⟩, hb1⟩)
  have k0 : (w1.alloc (.cells #[.slice A smallT.nodes.length c, .int .i64 smallT.now] 24)).cell? ⟨w1.heap.size, 0, none⟩ = some (.slice A smallT.nodes.length c) := by rw [World.cell?_alloc_new]; rfl
  have k1 : (w1.alloc (.cells #[.slice A smallT.nodes.length c, .int .i64 smallT.now] 24)).cell? ⟨w1.heap.size, 1, none⟩ = some (.int .i64 smallT.now) := by rw [World.cell?_alloc_new]; rfl
  have hbA := below_alloc hb1 (.cells #[.slice A smallT.nodes.length c, .int .i64 smallT.now] 24)
  have hA2 := hA.keep (below_alloc (Below.refl _ _) (.cells #[.slice A smallT.nodes.length c, .int .i64 smallT.now] 24))
  obtain ⟨wa, hwa⟩ : ∃ y, y = w1.alloc (.cells #[.slice A smallT.nodes.length c, .int .i64 smallT.now] 24) := ⟨_, rfl⟩
  rw [← hwa] at k0 k1 hbA hA2
  rw [← hwa]
  obtain ⟨bt, hbt⟩ : ∃ y, y = w1.heap.size := ⟨_, rfl⟩
  rw [← hbt] at k0 k1
  rw [← hbt]
  have HA := Lib.hid hA2
  have HB := Lib.hid hbA
  clear hA hwa hbt hbA hA2 hb1
  go_upto_region 3 with (go_at_call 7; refine (small1_calls _ _ _ HA.out).mono ?_; rintro _ w2 ⟨⟨S1, c1, V1, d1, rfl, hs1⟩, hb2⟩; replace k0 := cell_keep hb2 k0; replace k1 := cell_keep hb2 k1; replace HA := Lib.hid (HA.out.keep hb2); replace HB := Lib.hid (below_step HB.out hb2); have HS1 := Lib.hid hs1; clear hs1 hb2)
  go_upto_region 4 with (go_at_call 7; refine (small2_calls _ _ _ HA.out).mono ?_; rintro _ w3 ⟨⟨S2, c2, V2, d2, rfl, hs2⟩, hb3⟩; replace k0 := cell_keep hb3 k0; replace k1 := cell_keep hb3 k1; replace HA := Lib.hid (HA.out.keep hb3); replace HB := Lib.hid (below_step HB.out hb3); replace HS1 := Lib.hid (HS1.out.keep hb3); have HS2 := Lib.hid hs2; clear hs2 hb3)
  go_wp2_with (go_at_call 10; refine (small_sizes S1 c1 _ _ _ HA.out HS1.out).mono ?_; rintro _ w4 ⟨gz, ⟨rfl, hz⟩, hb4⟩; have hs1 := HS1.out.keep hb4; have hs2 := HS2.out.keep hb4; replace HB := Lib.hid (below_step HB.out hb4); obtain ⟨g1, o1, rfl, q1⟩ := steps_some hs1 rfl; obtain ⟨g2, o2, rfl, q2⟩ := steps_some hs2 rfl; have z1 := hz.cell 1 (by decide); have z2 := hz.cell 2 (by decide); have z3 := hz.cell 3 (by decide); have z4 := hz.cell 4 (by decide); have l2 := q1 2 _ rfl; have l3 := q1 3 _ rfl; have l4 := q1 4 _ rfl; have m1 := q2 1 _ rfl; simp only [Nat.reduceMul, Nat.add_assoc, Nat.reduceAdd] at l2 l3 l4 m1; obtain ⟨l20, l21, l22, l23⟩ := l2; obtain ⟨l30, l31, l32, l33⟩ := l3; obtain ⟨l40, l41, l42, l43⟩ := l4; obtain ⟨m10, m11, m12, m13⟩ := m1; clear hs1 hs2 q1 q2 hz hb4 k0 k1)
  go_ret
  exact ⟨rfl, HB.out⟩
end Go.Proofs.YtdceechakocgfaaDoor
