/- The law that all is come to: what is known ahead of its walk. -/
import Derived.Test.YtdceechakocgfaaDoorW4
import Derived.Test.YtdceechakocgfaaDoorW5
namespace Go.Proofs.YtdceechakocgfaaDoor
open Go.RowKit
theorem walk_bounds {t : TTree} (u g deepest : Int) : ∀ (f : Nat) (n : Int) (p : ByteArray) (d : Int) (k : Nat), Fuel t f n k → p.size ≤ k → ∀ s ∈ (walkP t u g deepest f n p d).1, s.path.size ≤ 1000000 ∧ (0 ≤ s.node ∧ s.node < t.nodes.length) ∧ d ≤ s.depth ∧ s.depth ≤ d + (f : Nat)
  | 0, _, _, _, _, hf, _, _, _ => hf.elim
  | f + 1, n, p, d, k, ⟨h0, h1, h2, h3⟩, hp, s, hs => by
    unfold walkP at hs
    split at hs
    · rename_i hk
      dsimp only at hs
      simp only [List.cons_append, List.mem_cons, List.mem_append, List.mem_flatMap, List.not_mem_nil, or_false] at hs
      rcases hs with rfl | ⟨e, he, hse⟩ | rfl
      · exact ⟨by dsimp only; omega, ⟨h0, h1⟩, by dsimp only; omega, by dsimp only; omega⟩
      · have h4 := h3 hk e (kids_mem he)
        have h5 := joinB_size p e.name
        have := walk_bounds u g deepest f e.node _ _ _ h4.2 (by omega) s hse
        refine ⟨this.1, this.2.1, by omega, by push_cast; omega⟩
      · exact ⟨by dsimp only; omega, ⟨h0, h1⟩, by dsimp only; omega, by dsimp only; omega⟩
    · simp only [List.mem_cons, List.not_mem_nil, or_false] at hs
      subst hs
      exact ⟨by dsimp only; omega, ⟨h0, h1⟩, by dsimp only; omega, by dsimp only; omega⟩
theorem way_bounds {t : TTree} (h : TreeOK t) (g : Int) : ∀ s ∈ wayR t g, s.path.size ≤ 1000000 ∧ I64 s.node ∧ I64 s.depth := fun s hs => by
  have := walk_bounds 0 g 33 40 1 rootP 0 1 (fuelR h) (by decide) s hs
  have hN := h.head.most
  unfold I64
  exact ⟨this.1, by omega, by omega⟩
theorem way_range {t : TTree} (h : TreeOK t) (g : Int) : ∀ s ∈ wayR t g, 0 ≤ s.node ∧ s.node < t.nodes.length := fun s hs =>
  (walk_bounds 0 g 33 40 1 rootP 0 1 (fuelR h) (by decide) s hs).2.1
theorem way_len {t : TTree} (h : TreeOK t) (g : Int) : (wayR t g).length ≤ 5000 := (walk_lens h 0 g 33 40 1 1 rootP 0 (fuelR h)).1
theorem root_find {t : TTree} (h : TreeOK t) : (findS t 0 0 0 1 rootP.data.toList false).2 = 0 ∧ (findS t 0 0 0 1 rootP.data.toList false).1.node = 1 := by
  have hp : permB t 0 0 0 1 = true := by
    unfold permB
    have h2 := h.head.two
    have hr := h.head.root
    rw [treeOK_yes h, hr]
    simp; omega
  unfold findS
  rw [if_pos hp]
  have h1 : partsOf rootP.data.toList = [] := by kernel_rfl
  have h3 : badS rootP.data.toList = false := by kernel_rfl
  unfold inS
  rw [if_neg (by decide), h3, if_neg (by decide), h1, show (20000 : Nat) = 19999 + 1 from rfl]
  unfold inGo
  exact ⟨rfl, rfl⟩
theorem aims_succ {t : TTree} {i : Nat} {x : TNode} (hx : t.nodes[i]? = some x) : t.aims (i + 1) = t.aims i + x.target.size := by
  unfold TTree.aims
  rw [List.take_add_one, hx, List.map_append, List.sum_append]
  simp
theorem target_le {x : TNode} (h : x.ok = true) : x.target.size ≤ 1024 := by
  unfold TNode.ok TNode.byKind at h
  rw [Bool.and_eq_true] at h
  have h2 := h.2
  split at h2
  · rw [TNode.k0, decide_eq_true_iff] at h2; omega
  · split at h2
    · rw [TNode.k1, decide_eq_true_iff] at h2; omega
    · split at h2
      · rw [TNode.k2, decide_eq_true_iff] at h2; omega
      · rw [TNode.k3, decide_eq_true_iff] at h2; omega
theorem aims_le {t : TTree} (h : TreeOK t) : ∀ i, i ≤ t.nodes.length → t.aims i ≤ i * 1024
  | 0, _ => by simp [TTree.aims]
  | i + 1, hi => by
    obtain ⟨x, hx⟩ : ∃ x, t.nodes[i]? = some x := ⟨t.nodes[i]'(by omega), by simp⟩
    rw [aims_succ hx]
    have := aims_le h i (by omega)
    have := target_le (h.each x (List.mem_of_getElem? hx))
    omega
theorem aims_one {t : TTree} (h : TreeOK t) : t.aims 1 = 0 := by
  obtain ⟨x, hx⟩ : ∃ x, t.nodes[0]? = some x := ⟨t.nodes[0]'(by have := h.head.two; omega), by simp⟩
  rw [aims_succ (i := 0) hx]
  have hz := h.head.zero
  have hat : t.at 0 = x := at_eq (by simpa using hx)
  rw [hat] at hz
  have hok := h.each x (List.mem_of_getElem? hx)
  unfold TNode.ok TNode.byKind at hok
  rw [Bool.and_eq_true, if_pos hz, TNode.k0, decide_eq_true_iff] at hok
  simp only [TTree.aims, List.take_zero, List.map_nil, List.sum_nil]
  omega
/-- How often each node stands in so many steps, those with After left out. -/
def cntL (l : List TStep) (j : Int) : Nat := ((l.filter fun s => !s.after).map fun s => s.node).count j
theorem cntL_snoc (l : List TStep) (x : TStep) (j : Int) : cntL (l ++ [x]) j = cntL l j + if x.after = false ∧ x.node = j then 1 else 0 := by
  unfold cntL
  rw [List.filter_append, List.map_append, List.count_append]
  cases ha : x.after with
  | true => simp [ha]
  | false =>
    simp only [List.filter_cons, ha, Bool.not_false, if_true, List.filter_nil, List.map_cons, List.map_nil, true_and]
    rw [List.count_cons, List.count_nil]
    by_cases h : x.node = j
    · rw [if_pos h, if_pos (by simpa using h)]
    · rw [if_neg h, if_neg (by simpa using h)]
theorem way_cnt (t : TTree) (g j : Int) : cntL (wayR t g) j = (visR t g).count j := by
  have h := walk_vis t 0 g 33 40 1 rootP 0
  unfold cntL wayR visR
  rw [h]
theorem sz_way (t : TTree) (hF : t.Fits) (h : TreeOK t) (A : Option Addr) (c : Nat) (w : World) (hA : NodesAt w A t.nodes) (S : Option Addr) (cs : Nat) (hS : StepsAt w S (wayR t 0)) :
    Calls Tryd.prog 10 #[.agg #[.slice A t.nodes.length c, .int .i64 t.now], .slice S (wayR t 0).length cs] w fun e w' => (∃ g K out, e = .returned (.slice (some ⟨g, 0, none⟩) (K + 1) (K + 1)) ∧ IntRow w' g out ∧ (out.length = K + 1 ∧ K ≤ 5000) ∧ out.getD K 0 = ((t.bytes t.nodes.length + t.aims t.nodes.length : Nat) : Int)) ∧ Below w.heap.size w w' := by
  refine (sz_calls t hF A c w hA (wayR t 0) (by have := way_len h 0; omega) S cs hS (way_bounds h 0)).mono ?_
  rintro e w' ⟨g, ⟨rfl, -, hr⟩, hb⟩
  obtain ⟨h1, h2⟩ := all_last h hF 0
  obtain ⟨K, hK⟩ : ∃ K, (wayR t 0).length = K + 1 := ⟨(wayR t 0).length - 1, by omega⟩
  have hlen := way_len h 0
  refine ⟨⟨g, K, szOut t (wayR t 0), by rw [hK], hr, ⟨?_, by omega⟩, ?_⟩, hb⟩
  · unfold szOut
    split
    · rw [(szRun_len t (wayR t 0)).1, hK]
    · rw [List.length_replicate, hK]
  · rw [hK] at h2
    exact h2
end Go.Proofs.YtdceechakocgfaaDoor
