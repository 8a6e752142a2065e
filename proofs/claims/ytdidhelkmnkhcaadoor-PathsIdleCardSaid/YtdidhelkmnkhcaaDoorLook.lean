/- An argument that is a tree, somebody, a path, and a last word: opened. -/
import Derived.Test.YtdidhelkmnkhcaaDoorRow
namespace Go.Proofs.YtdidhelkmnkhcaaDoor
open Go.ChangeShapes Go.WideShapes Go.ChangeAt Go.RowKit Go.Deep
theorem array8 {cs : Array Value} (h : cs.size = 8) : ∃ v0 v1 v2 v3 v4 v5 v6 v7, cs = #[v0, v1, v2, v3, v4, v5, v6, v7] := by
  obtain ⟨l⟩ := cs
  match l, h with
  | [v0, v1, v2, v3, v4, v5, v6, v7], _ => exact ⟨v0, v1, v2, v3, v4, v5, v6, v7, rfl⟩
section
variable {H : Type} {enc : TypeId × Value → H} {w : World} {base : Nat} {spare : Nat → Bool} {held : Bool}
set_option maxRecDepth 100000 in
theorem tree_cells_open {n : Nat} {v0 v1 : Value} {y : DataW H × List MemPlace} (h : DataW.trod enc Tryd.prog w base spare held n 24 [v0, v1] = some y) (hw : Weighed Tryd.prog 24 y.1) :
    ∃ A c, ∃ t : TTree, v0 = .slice A t.nodes.length c ∧ v1 = .int .i64 t.now ∧ NodesAt w A t.nodes ∧ t.Fits := by
  obtain ⟨y0, y1, k, rfl, -, t0, t1⟩ := trod_struct2 Tryd.underlying24 h
  have w0 := hw.field Tryd.underlying24 (j := 0) rfl (d := y0.1) rfl
  obtain ⟨A, c, l, e0, hA, hl, hF⟩ := nodes_open (v := v0) t0 w0
  obtain ⟨q, e1, -, hq⟩ := DataW.trod_int Tryd.underlying3 t1
  have e1 : [v1] = [Value.int .i64 q] := e1
  cases e1
  exact ⟨A, c, ⟨l, q⟩, e0, rfl, hA, hl, hF, wf_i64 hq⟩
set_option maxRecDepth 100000 in
theorem env_cells_open {n : Nat} {v0 v1 v2 v3 : Value} {y : DataW H × List MemPlace} (h : DataW.trod enc Tryd.prog w base spare held n 26 [v0, v1, v2, v3] = some y) :
    ∃ u g m d : Int, v0 = .int .i64 u ∧ v1 = .int .i64 g ∧ v2 = .int .i64 m ∧ v3 = .int .i64 d ∧ I64 u ∧ I64 g ∧ I64 m ∧ I64 d := by
  obtain ⟨y0, y1, y2, y3, k, rfl, -, t0, t1, t2, t3⟩ := Go.Joins.trod_struct4 Tryd.underlying26 h
  obtain ⟨q0, e0, -, h0⟩ := DataW.trod_int Tryd.underlying3 t0
  obtain ⟨q1, e1, -, h1⟩ := DataW.trod_int Tryd.underlying3 t1
  obtain ⟨q2, e2, -, h2⟩ := DataW.trod_int Tryd.underlying3 t2
  obtain ⟨q3, e3, -, h3⟩ := DataW.trod_int Tryd.underlying3 t3
  have e0 : [v0] = [Value.int .i64 q0] := e0
  have e1 : [v1] = [Value.int .i64 q1] := e1
  have e2 : [v2] = [Value.int .i64 q2] := e2
  have e3 : [v3] = [Value.int .i64 q3] := e3
  cases e0; cases e1; cases e2; cases e3
  exact ⟨q0, q1, q2, q3, rfl, rfl, rfl, rfl, wf_i64 h0, wf_i64 h1, wf_i64 h2, wf_i64 h3⟩
set_option maxRecDepth 100000 in
theorem looking_open {r : Reach} {b0 : Nat} {v : Value} {d : DataW H} {p : List MemPlace} (hv : Value.okWide Tryd.prog w r b0 52 v)
    (h : DataW.Trod enc Tryd.prog w base spare held 52 v d p) (hw : Weighed Tryd.prog 52 d) :
    ∃ A c, ∃ t : TTree, ∃ u g m e : Int, ∃ s : ByteArray, ∃ z : Bool, v = .agg #[.slice A t.nodes.length c, .int .i64 t.now, .int .i64 u, .int .i64 g, .int .i64 m, .int .i64 e, .string s, .bool z] ∧ NodesAt w A t.nodes ∧ t.Fits ∧ (I64 u ∧ I64 g ∧ I64 m ∧ I64 e ∧ s.size ≤ 140737488355328) := by
  obtain ⟨cs, rfl, hsz⟩ := okWide_struct Tryd.underlying52 hv
  obtain ⟨v0, v1, v2, v3, v4, v5, v6, v7, rfl⟩ := array8 (hsz.trans (by kernel_rfl))
  obtain ⟨fuel, hf⟩ := h
  obtain ⟨y0, y1, y2, y3, k, hx, -, t0, t1, t2, t3⟩ := Go.Joins.trod_struct4 Tryd.underlying52 hf
  cases hx
  have t0' : DataW.trod enc Tryd.prog w base spare held k 24 [v0, v1] = some y0 := t0
  have t1' : DataW.trod enc Tryd.prog w base spare held k 26 [v2, v3, v4, v5] = some y1 := t1
  have t2' : DataW.trod enc Tryd.prog w base spare held k 9 [v6] = some y2 := t2
  have t3' : DataW.trod enc Tryd.prog w base spare held k 4 [v7] = some y3 := t3
  have w0 := hw.field Tryd.underlying52 (j := 0) rfl (d := y0.1) rfl
  have w2 := hw.field Tryd.underlying52 (j := 2) rfl (d := y2.1) rfl
  obtain ⟨A, c, t, rfl, rfl, hA, hF⟩ := tree_cells_open t0' w0
  obtain ⟨u, g, m, e, rfl, rfl, rfl, rfl, hE⟩ := env_cells_open t1'
  obtain ⟨s, es, hys, -⟩ := DataW.trod_string Tryd.underlying9 t2'
  cases es
  obtain ⟨z, ez, -⟩ := DataW.trod_bool Tryd.underlying4 t3'
  cases ez
  refine ⟨A, c, t, u, g, m, e, s, z, rfl, hA, hF, hE.1, hE.2.1, hE.2.2.1, hE.2.2.2, ?_⟩
  rw [hys] at w2
  have := Weighed.string w2
  rw [Array.length_toList] at this
  exact Nat.le_trans this (by decide)
end
end Go.Proofs.YtdidhelkmnkhcaaDoor
