/- walk.Walk: no more to be known than the path's length; the small tree's walks. -/
/- great of the walks' laws; an argument that is a tree, somebody, a path, how deep. -/
/- lives of the walks' laws. -/
import Derived.Test.YtbfcfjgcmideeaaGreatDoorW7
import Derived.Test.YtbfcfjgcmideeaaGreatDoorW1
import Derived.Test.YtbfcfjgcmideeaaGreatDoorSz
import Derived.Test.YtbfcfjgcmideeaaGreatDoorS2
import Derived.Test.YtbfcfjgcmideeaaGreatDoorS1
namespace Go.Proofs.YtbfcfjgcmideeaaGreatDoor
open Go.RowKit
theorem walk_ok (t : TTree) (hF : t.Fits) (u g m d deepest : Int) (p : ByteArray) (hp : p.size ≤ 900000) (A : Option Addr) (c : Nat) (w : World) (hA : NodesAt w A t.nodes) (R : PlaceV × Int) (hR : findS t u g m d p.data.toList false = R) :
    Calls Tryz.prog 15 #[.agg #[.slice A t.nodes.length c, .int .i64 t.now], .agg #[.int .i64 u, .int .i64 g, .int .i64 m, .int .i64 d], .string p, .int .i64 deepest] w fun e w' => WalkPost t u g deepest p R w e w' ∧ Below w.heap.size w w' := by
  have hfu : R.2 = 0 → R.1.node ≠ 0 → Fuel t 40 R.1.node p.size := fun h0 _ => by
    obtain ⟨hT, h1, h2⟩ := findS_node hR h0
    exact hT.fuel40 h1 h2 hp
  refine walk_calls t hF u g m d deepest p A c w hA R hR hfu fun h0 hn => ?_
  have := walk_lens (findS_node hR h0).1 u g deepest 40 R.1.node p.size p 0 (hfu h0 hn)
  omega
theorem Rd.bits {w : World} {B z : Nat} {v : Value} {rows : List (List Value)} (h : Rd w B z v rows) :
    ∃ A c, v = .slice A rows.length c ∧ ∀ i r, rows[i]? = some r → ∃ g, A = some ⟨g, 0, none⟩ ∧ B ≤ g ∧ g < w.heap.size ∧ ∀ j u, r[j]? = some u → w.cell? ⟨g, 0 + i * z + j, none⟩ = some u := by
  rcases h with ⟨rfl, rfl⟩ | ⟨g, c, rfl, -, h0, h1, h2⟩
  · exact ⟨none, 0, rfl, fun i r h => by simp at h⟩
  · exact ⟨_, c, rfl, fun i r hi => ⟨g, rfl, h0, h1, h2 i r hi⟩⟩
theorem Rd.steps {w : World} {B : Nat} {v : Value} {l : List TStep} (h : Rd w B 4 v (stepRows l)) : ∃ A c, v = .slice A l.length c ∧ StepsAt w A l := by
  obtain ⟨A, c, rfl, hc⟩ := h.bits
  refine ⟨A, c, by simp [stepRows], fun i x hi => ?_⟩
  obtain ⟨g, rfl, -, -, h2⟩ := hc i x.cells.toList (by simp [stepRows, hi])
  exact ⟨g, 0, rfl, h2 0 _ rfl, h2 1 _ rfl, h2 2 _ rfl, h2 3 _ rfl⟩
theorem small_perm : permB smallT 0 0 0 1 = true := by unfold permB; rw [small_yes]; decide
theorem small_findS (p : List UInt8) (f : Bool) : findS smallT 0 0 0 1 p f = inS smallT 0 0 1 p f := by unfold findS; rw [small_perm, if_pos rfl]
def smallL : List TStep := [⟨⟨#[47]⟩, 1, 0, false⟩, ⟨⟨#[47, 97]⟩, 2, 1, false⟩, ⟨⟨#[47, 97, 47, 98]⟩, 3, 2, false⟩, ⟨⟨#[47, 97]⟩, 2, 1, true⟩, ⟨⟨#[47]⟩, 1, 0, true⟩]
def smallM : List TStep := [⟨⟨#[97]⟩, 2, 0, false⟩, ⟨⟨#[97]⟩, 2, 0, true⟩]
theorem small_walk1 : walkP smallT 0 0 9 40 1 ⟨#[47]⟩ 0 = (smallL, []) := by kernel_rfl
theorem small_walk2 : walkP smallT 0 0 0 40 2 ⟨#[97]⟩ 0 = (smallM, []) := by kernel_rfl
theorem small_sz : szOut smallT smallL = [0, 0, 5, 5, 5] := by unfold szOut; rw [small_yes, if_pos rfl]; kernel_rfl
theorem small1_calls (A : Option Addr) (c : Nat) (w : World) (hA : NodesAt w A smallT.nodes) :
    Calls Tryz.prog 15 #[.agg #[.slice A smallT.nodes.length c, .int .i64 smallT.now], .agg #[.int .i64 0, .int .i64 0, .int .i64 0, .int .i64 1], .string ⟨#[47]⟩, .int .i64 9] w fun e w' => (∃ A1 c1 A2 c2, e = .returned (.tuple #[.slice A1 5 c1, .slice A2 0 c2, .int .i64 0]) ∧ StepsAt w' A1 smallL) ∧ Below w.heap.size w w' := by
  refine (walk_ok smallT small_fits 0 0 0 1 9 ⟨#[47]⟩ (by decide) A c w hA _ (small_findS _ _)).mono ?_
  rintro e w' ⟨hp, hb⟩
  refine ⟨?_, hb⟩
  have h2 : (inS smallT 0 0 1 (ByteArray.mk #[47]).data.toList false).2 = 0 := by kernel_rfl
  have h1 : (inS smallT 0 0 1 (ByteArray.mk #[47]).data.toList false).1.node = 1 := by kernel_rfl
  unfold WalkPost at hp
  rw [h1, h2, small_walk1] at hp
  rcases hp with ⟨h, -⟩ | ⟨-, h, -⟩ | ⟨-, -, vo, vs, rfl, ho, hs, -⟩
  · exact absurd rfl h
  · exact absurd h (by decide)
  · obtain ⟨A1, c1, rfl, hst⟩ := ho.rd.steps
    obtain ⟨A2, c2, rfl, -⟩ := hs.rd.bits
    exact ⟨A1, c1, A2, c2, rfl, hst⟩
theorem small2_calls (A : Option Addr) (c : Nat) (w : World) (hA : NodesAt w A smallT.nodes) :
    Calls Tryz.prog 15 #[.agg #[.slice A smallT.nodes.length c, .int .i64 smallT.now], .agg #[.int .i64 0, .int .i64 0, .int .i64 0, .int .i64 1], .string ⟨#[97]⟩, .int .i64 0] w fun e w' => (∃ A1 c1 A2 c2, e = .returned (.tuple #[.slice A1 2 c1, .slice A2 0 c2, .int .i64 0]) ∧ StepsAt w' A1 smallM) ∧ Below w.heap.size w w' := by
  refine (walk_ok smallT small_fits 0 0 0 1 0 ⟨#[97]⟩ (by decide) A c w hA _ (small_findS _ _)).mono ?_
  rintro e w' ⟨hp, hb⟩
  refine ⟨?_, hb⟩
  have h2 : (inS smallT 0 0 1 (ByteArray.mk #[97]).data.toList false).2 = 0 := by kernel_rfl
  have h1 : (inS smallT 0 0 1 (ByteArray.mk #[97]).data.toList false).1.node = 2 := by kernel_rfl
  unfold WalkPost at hp
  rw [h1, h2, small_walk2] at hp
  rcases hp with ⟨h, -⟩ | ⟨-, h, -⟩ | ⟨-, -, vo, vs, rfl, ho, hs, -⟩
  · exact absurd rfl h
  · exact absurd h (by decide)
  · obtain ⟨A1, c1, rfl, hst⟩ := ho.rd.steps
    obtain ⟨A2, c2, rfl, -⟩ := hs.rd.bits
    exact ⟨A1, c1, A2, c2, rfl, hst⟩
end Go.Proofs.YtbfcfjgcmideeaaGreatDoor
namespace Go.Proofs.YtbfcfjgcmideeaaGreatDoor
open Go.RowKit
attribute [local go_sem] Later.cell_eq
def Great18 (t : TTree) (p : ByteArray) (w : World) (e : Ending) (w' : World) : Prop := ∃ b : Bool, (e = .returned (.bool b) ∧ (b = false → t.size ≤ 60000 ∧ p.size ≤ 3000)) ∧ Below w.heap.size w w'
set_option maxHeartbeats 2000000 in
theorem great18_calls (t : TTree) (hF : t.Fits) (u g m d dp : Int) (p : ByteArray) (hp : p.size ≤ 140737488355328) (A : Option Addr) (c : Nat) (w : World) (hA : NodesAt w A t.nodes) :
    Calls Tryz.prog 12 #[.agg #[.slice A t.nodes.length c, .int .i64 t.now, .int .i64 u, .int .i64 g, .int .i64 m, .int .i64 d, .string p, .int .i64 dp]] w (Great18 t p w) := by
  have HF := Lib.hid hF
  have HA := Lib.hid hA
  clear hF hA
  go_enter Tryz.func12, Tryz.ntmps12
  go_wp2_with (go_at_call 24; refine (treeSize_calls t HF.out A c _ (HA.out.keep (below_alloc (Below.refl _ _) _))).mono ?_; rintro _ w1 ⟨q, ⟨rfl, hq2⟩, hb1⟩; have HQ := Lib.hid hq2; have k6 := cell_keep hb1 (p := ⟨w.heap.size, 6, none⟩) (v := .string p) (by simp [go_sem]); clear hq2)
  all_goals go_ret
  all_goals refine ⟨_, ⟨rfl, fun h => ?_⟩, below_step (below_alloc (Below.refl _ _) _) hb1⟩
  all_goals simp at h
  all_goals
    have h1 : ¬ 60000 < (q : Int) := by omega
    rw [← HQ.out (by omega)]
    omega
structure WkAt (w : World) (b : Nat) (A : Option Addr) (t : TTree) (c : Nat) (u g m e : Int) (p : ByteArray) (dp : Int) : Prop where
  c0 : w.cell? ⟨b, 0, none⟩ = some (.slice A t.nodes.length c)
  c1 : w.cell? ⟨b, 1, none⟩ = some (.int .i64 t.now)
  c2 : w.cell? ⟨b, 2, none⟩ = some (.int .i64 u)
  c3 : w.cell? ⟨b, 3, none⟩ = some (.int .i64 g)
  c4 : w.cell? ⟨b, 4, none⟩ = some (.int .i64 m)
  c5 : w.cell? ⟨b, 5, none⟩ = some (.int .i64 e)
  c6 : w.cell? ⟨b, 6, none⟩ = some (.string p)
  c7 : w.cell? ⟨b, 7, none⟩ = some (.int .i64 dp)
def wkRow (A : Option Addr) (t : TTree) (c : Nat) (u g m e : Int) (p : ByteArray) (dp : Int) : Array Value := #[.slice A t.nodes.length c, .int .i64 t.now, .int .i64 u, .int .i64 g, .int .i64 m, .int .i64 e, .string p, .int .i64 dp]
theorem wkAt_of {w : World} {b : Nat} {A : Option Addr} {t : TTree} {c : Nat} {u g m e : Int} {p : ByteArray} {dp : Int} {ty : TypeId} (h : w.heap[b]? = some (.cells (wkRow A t c u g m e p dp) ty (0, 0))) : WkAt w b A t c u g m e p dp :=
  ⟨cell_of_row w b 0 _ _ _ h, cell_of_row w b 1 _ _ _ h, cell_of_row w b 2 _ _ _ h, cell_of_row w b 3 _ _ _ h, cell_of_row w b 4 _ _ _ h, cell_of_row w b 5 _ _ _ h, cell_of_row w b 6 _ _ _ h, cell_of_row w b 7 _ _ _ h⟩
theorem WkAt.keep {w w' : World} {b : Nat} {A : Option Addr} {t : TTree} {c : Nat} {u g m e : Int} {p : ByteArray} {dp : Int} (h : WkAt w b A t c u g m e p dp) (hb : Below w.heap.size w w') : WkAt w' b A t c u g m e p dp :=
  ⟨cell_keep hb h.c0, cell_keep hb h.c1, cell_keep hb h.c2, cell_keep hb h.c3, cell_keep hb h.c4, cell_keep hb h.c5, cell_keep hb h.c6, cell_keep hb h.c7⟩
/-- What a walk's steps tell, and nothing of what is shut but how many. -/
def WentOK (L : List TStep) (V : List ByteArray) (w : World) (e : Ending) (w' : World) : Prop := (∃ S1 c1 V1 d1, e = .returned (.tuple #[.slice S1 L.length c1, .slice V1 V.length d1, .int .i64 0]) ∧ StepsAt w' S1 L) ∧ Below w.heap.size w w'
def WentNo (w : World) (e : Ending) (w' : World) : Prop := (∃ k : Int, k ≠ 0 ∧ e = .returned (.tuple #[.slice none 0 0, .slice none 0 0, .int .i64 k])) ∧ Below w.heap.size w w'
theorem walk_went (t : TTree) (hF : t.Fits) (u g m d deepest : Int) (p : ByteArray) (hp : p.size ≤ 900000) (A : Option Addr) (c : Nat) (w : World) (hA : NodesAt w A t.nodes) (R : PlaceV × Int) (hR : findS t u g m d p.data.toList false = R) (hz : R.2 = 0 ∧ R.1.node ≠ 0) :
    Calls Tryz.prog 15 #[.agg #[.slice A t.nodes.length c, .int .i64 t.now], .agg #[.int .i64 u, .int .i64 g, .int .i64 m, .int .i64 d], .string p, .int .i64 deepest] w (WentOK (walkP t u g deepest 40 R.1.node p 0).1 (walkP t u g deepest 40 R.1.node p 0).2 w) := by
  refine (walk_ok t hF u g m d deepest p hp A c w hA R hR).mono ?_
  rintro e w' ⟨hp, hb⟩
  refine ⟨?_, hb⟩
  rcases hp with ⟨h, -⟩ | ⟨-, h, -⟩ | ⟨-, -, vo, vs, rfl, ho, hs, -⟩
  · exact absurd hz.1 h
  · exact absurd h hz.2
  · obtain ⟨A1, c1, rfl, hst⟩ := ho.rd.steps
    obtain ⟨A2, c2, rfl, -⟩ := hs.rd.bits
    exact ⟨A1, c1, A2, c2, by simp [pathRows], hst⟩
theorem walk_not (t : TTree) (hF : t.Fits) (u g m d deepest : Int) (p : ByteArray) (hp : p.size ≤ 900000) (A : Option Addr) (c : Nat) (w : World) (hA : NodesAt w A t.nodes) (R : PlaceV × Int) (hR : findS t u g m d p.data.toList false = R) (hz : ¬ (R.2 = 0 ∧ R.1.node ≠ 0)) :
    Calls Tryz.prog 15 #[.agg #[.slice A t.nodes.length c, .int .i64 t.now], .agg #[.int .i64 u, .int .i64 g, .int .i64 m, .int .i64 d], .string p, .int .i64 deepest] w (WentNo w) := by
  refine (walk_ok t hF u g m d deepest p hp A c w hA R hR).mono ?_
  rintro e w' ⟨hp, hb⟩
  refine ⟨?_, hb⟩
  rcases hp with ⟨h, rfl⟩ | ⟨-, -, rfl⟩ | ⟨h1, h2, -⟩
  · exact ⟨R.2, h, rfl⟩
  · exact ⟨6, by decide, rfl⟩
  · exact absurd ⟨h1, h2⟩ hz
end Go.Proofs.YtbfcfjgcmideeaaGreatDoor
namespace Go.Proofs.YtbfcfjgcmideeaaGreatDoor
open Go.RowKit
attribute [local go_sem] Later.cell_eq
theorem small_sizes (S : Option Addr) (cs : Nat) (A : Option Addr) (c : Nat) (w : World) (hA : NodesAt w A smallT.nodes) (hS : StepsAt w S smallL) :
    Calls Tryz.prog 27 #[.agg #[.slice A smallT.nodes.length c, .int .i64 smallT.now], .slice S 5 cs] w fun e w' => ∃ g, (e = .returned (.slice (some ⟨g, 0, none⟩) 5 5) ∧ IntRow w' g [0, 0, 5, 5, 5]) ∧ Below w.heap.size w w' := by
  refine (sz_calls smallT small_fits A c w hA smallL (by decide) S cs hS ?_).mono ?_
  · intro x hx
    simp only [smallL, List.mem_cons, List.not_mem_nil, or_false] at hx
    rcases hx with rfl | rfl | rfl | rfl | rfl <;> exact ⟨by decide, by unfold I64; decide, by unfold I64; decide⟩
  · rintro e w' ⟨g, ⟨rfl, -, h⟩, hb⟩
    rw [small_sz] at h
    exact ⟨g, ⟨rfl, h⟩, hb⟩
theorem steps_some {w : World} {A : Option Addr} {l : List TStep} {x : TStep} (h : StepsAt w A l) (hx : l[0]? = some x) : ∃ g o, A = some ⟨g, o, none⟩ ∧ ∀ i x, l[i]? = some x → w.cell? ⟨g, o + i * 4, none⟩ = some (.string x.path) ∧ w.cell? ⟨g, o + i * 4 + 1, none⟩ = some (.int .i64 x.node) ∧ w.cell? ⟨g, o + i * 4 + 2, none⟩ = some (.int .i64 x.depth) ∧ w.cell? ⟨g, o + i * 4 + 3, none⟩ = some (.bool x.after) := by
  obtain ⟨g, o, rfl, -⟩ := h 0 x hx
  refine ⟨g, o, rfl, fun i x hi => ?_⟩
  obtain ⟨g', o', he, h1⟩ := h i x hi
  cases he
  exact h1
set_option maxHeartbeats 4000000 in
set_option maxRecDepth 100000 in
theorem lives18_calls (w : World) :
    Calls Tryz.prog 13 #[] w fun e w' => e = .returned (.bool true) ∧ Below w.heap.size w w' := by
  go_enter Tryz.func13, Tryz.ntmps13
  go_upto_region 2 with (go_at_call 59; refine (small_calls _).mono ?_; rintro _ w1 ⟨A, c, ⟨rfl, hA⟩, hb1⟩)
  have k0 : (w1.alloc (.cells #[.slice A smallT.nodes.length c, .int .i64 smallT.now] 24)).cell? ⟨w1.heap.size, 0, none⟩ = some (.slice A smallT.nodes.length c) := by rw [World.cell?_alloc_new]; rfl
  have k1 : (w1.alloc (.cells #[.slice A smallT.nodes.length c, .int .i64 smallT.now] 24)).cell? ⟨w1.heap.size, 1, none⟩ = some (.int .i64 smallT.now) := by rw [World.cell?_alloc_new]; rfl
  have hbA := below_alloc hb1 (.cells #[.slice A smallT.nodes.length c, .int .i64 smallT.now] 24)
  have hA2 := hA.keep (below_alloc (Below.refl _ _) (.cells #[.slice A smallT.nodes.length c, .int .i64 smallT.now] 24))
  obtain ⟨wa, hwa⟩ : ∃ y, y = w1.alloc (.cells #[.slice A smallT.nodes.length c, .int .i64 smallT.now] 24) := ⟨_, rfl⟩
  rw [← hwa] at k0 k1 hbA hA2
  rw [← hwa]
  obtain ⟨bt, hbt⟩ : ∃ y, y = w1.heap.size := ⟨_, rfl⟩
  rw [← hbt] at k0 k1
  rw [← hbt]
  have HA := Lib.hid hA2
  have HB := Lib.hid hbA
  clear hA hwa hbt hbA hA2 hb1
  go_upto_region 3 with (go_at_call 15; refine (small1_calls _ _ _ HA.out).mono ?_; rintro _ w2 ⟨⟨S1, c1, V1, d1, rfl, hs1⟩, hb2⟩; replace k0 := cell_keep hb2 k0; replace k1 := cell_keep hb2 k1; replace HA := Lib.hid (HA.out.keep hb2); replace HB := Lib.hid (below_step HB.out hb2); have HS1 := Lib.hid hs1; clear hs1 hb2)
  go_upto_region 4 with (go_at_call 15; refine (small2_calls _ _ _ HA.out).mono ?_; rintro _ w3 ⟨⟨S2, c2, V2, d2, rfl, hs2⟩, hb3⟩; replace k0 := cell_keep hb3 k0; replace k1 := cell_keep hb3 k1; replace HA := Lib.hid (HA.out.keep hb3); replace HB := Lib.hid (below_step HB.out hb3); replace HS1 := Lib.hid (HS1.out.keep hb3); have HS2 := Lib.hid hs2; clear hs2 hb3)
  go_wp2_with (go_at_call 27; refine (small_sizes S1 c1 _ _ _ HA.out HS1.out).mono ?_; rintro _ w4 ⟨gz, ⟨rfl, hz⟩, hb4⟩; have hs1 := HS1.out.keep hb4; have hs2 := HS2.out.keep hb4; replace HB := Lib.hid (below_step HB.out hb4); obtain ⟨g1, o1, rfl, q1⟩ := steps_some hs1 rfl; obtain ⟨g2, o2, rfl, q2⟩ := steps_some hs2 rfl; have z1 := hz.cell 1 (by decide); have z2 := hz.cell 2 (by decide); have z3 := hz.cell 3 (by decide); have z4 := hz.cell 4 (by decide); have l2 := q1 2 _ rfl; have l3 := q1 3 _ rfl; have l4 := q1 4 _ rfl; have m1 := q2 1 _ rfl; simp only [Nat.reduceMul, Nat.add_assoc, Nat.reduceAdd] at l2 l3 l4 m1; obtain ⟨l20, l21, l22, l23⟩ := l2; obtain ⟨l30, l31, l32, l33⟩ := l3; obtain ⟨l40, l41, l42, l43⟩ := l4; obtain ⟨m10, m11, m12, m13⟩ := m1; clear hs1 hs2 q1 q2 hz hb4 k0 k1)
  go_ret
  exact ⟨rfl, HB.out⟩
end Go.Proofs.YtbfcfjgcmideeaaGreatDoor
