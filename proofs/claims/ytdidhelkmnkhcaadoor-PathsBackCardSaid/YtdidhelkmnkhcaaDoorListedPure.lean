/- What tree.listed counts: plain lists. -/
import Derived.Test.YtdidhelkmnkhcaaDoorSpec
namespace Go.Proofs.YtdidhelkmnkhcaaDoor

theorem getD_set_self (l : List Int) (j : Nat) (x : Int) (h : j < l.length) : (l.set j x).getD j 0 = x := by
  simp [h]
theorem getD_set_other (l : List Int) (i j : Nat) (x : Int) (h : i ≠ j) : (l.set i x).getD j 0 = l.getD j 0 := by
  simp [h]
theorem getD_replicate0 (n j : Nat) : (List.replicate n (0 : Int)).getD j 0 = 0 := by
  simp [List.getElem?_replicate]
  split <;> rfl

structure OuterOK (t : TTree) (N i : Nat) (T D : List Int) : Prop where
  lt : T.length = N
  ld : D.length = N
  times : ∀ j, j < N → T.getD j 0 = ((t.refs i).count j : Nat)
  dirs : ∀ j n, j < i → t.nodes[j]? = some n → D.getD j 0 = (dirsOf t n.list : Nat)
  zero : ∀ j, i ≤ j → D.getD j 0 = 0
  ok : ∀ j n, j < i → t.nodes[j]? = some n → listOK t j n
structure InnerOK (t : TTree) (N i : Nat) (l : List TEnt) (k : Nat) (T D : List Int) : Prop where
  lt : T.length = N
  ld : D.length = N
  times : ∀ j, j < N → T.getD j 0 = ((t.refs i).count j + (refsOf (l.take k)).count j : Nat)
  dirs : ∀ j n, j < i → t.nodes[j]? = some n → D.getD j 0 = (dirsOf t n.list : Nat)
  dir : D.getD i 0 = (dirsOf t (l.take k) : Nat)
  zero : ∀ j, i < j → D.getD j 0 = 0
  ok : ∀ j n, j < i → t.nodes[j]? = some n → listOK t j n
  to : listTo t i l k
def preOK (N k : Nat) (l : List TEnt) (e : TEnt) : Prop := nameOK e.name = true ∧ (∀ q, k ≠ 0 → l[k - 1]? = some q → strLt q.name e.name = true) ∧ 2 ≤ e.node ∧ e.node < N
/-- The entry at k may stand there. -/
def entAt (t : TTree) (i : Nat) (l : List TEnt) (k : Nat) (e : TEnt) : Prop := entOK t i (if k = 0 then none else l[k - 1]?) e
theorem entAt_iff {t : TTree} {N i k : Nat} (hN : t.nodes.length = N) {l : List TEnt} {e : TEnt} {x : TNode} (hx : t.nodes[e.node.toNat]? = some x) :
    entAt t i l k e ↔ preOK N k l e ∧ x.kind ≠ 0 ∧ (x.kind = 2 → x.parent = i) := by
  have hat : t.at e.node = x := by simp [TTree.at, hx]
  unfold entAt entOK preOK
  rw [hat, hN]
  constructor
  · rintro ⟨a, b, c, d, f, g⟩
    exact ⟨⟨a, fun q hk hq => b q (by rw [if_neg hk]; exact hq), c, d⟩, f, g⟩
  · rintro ⟨⟨a, b, c, d⟩, f, g⟩
    refine ⟨a, fun q hq => ?_, c, d, f, g⟩
    by_cases hk : k = 0
    · rw [if_pos hk] at hq; cases hq
    · rw [if_neg hk] at hq; exact b q hk hq
theorem entAt_pre {t : TTree} {N i k : Nat} (hN : t.nodes.length = N) {l : List TEnt} {e : TEnt} (h : entAt t i l k e) : preOK N k l e := by
  obtain ⟨a, b, c, d, f, g⟩ := h
  exact ⟨a, fun q hk hq => b q (by rw [if_neg hk]; exact hq), c, hN ▸ d⟩
theorem OuterOK.start (t : TTree) (N : Nat) : OuterOK t N 0 (List.replicate N 0) (List.replicate N 0) :=
  ⟨by simp, by simp, fun j _ => by rw [getD_replicate0]; simp [TTree.refs], fun j n h => absurd h (by omega), fun j _ => getD_replicate0 _ _, fun j n h => absurd h (by omega)⟩
theorem OuterOK.inner {t : TTree} {N i : Nat} {T D : List Int} (h : OuterOK t N i T D) (l : List TEnt) : InnerOK t N i l 0 T D :=
  ⟨h.lt, h.ld, fun j hj => by rw [h.times j hj]; simp [refsOf], h.dirs, by rw [h.zero i (Nat.le_refl _)]; simp [dirsOf], fun j hj => h.zero j (by omega), h.ok, fun j e hj => absurd hj (by omega)⟩
theorem refs_succ {t : TTree} {i : Nat} {n : TNode} (hn : t.nodes[i]? = some n) : t.refs (i + 1) = t.refs i ++ refsOf n.list := by
  unfold TTree.refs
  rw [List.take_add_one, hn, List.flatMap_append]
  simp
theorem InnerOK.outer {t : TTree} {N i : Nat} {n : TNode} {T D : List Int} (hn : t.nodes[i]? = some n) (h : InnerOK t N i n.list n.list.length T D) : OuterOK t N (i + 1) T D := by
  refine ⟨h.lt, h.ld, fun j hj => ?_, fun j m hj hm => ?_, fun j hj => h.zero j (by omega), fun j m hj hm => ?_⟩
  · rw [h.times j hj, refs_succ hn, List.count_append, List.take_length]
  · by_cases e : j = i
    · subst e; rw [hn] at hm; cases hm; rw [h.dir, List.take_length]
    · exact h.dirs j m (by omega) hm
  · by_cases e : j = i
    · subst e; rw [hn] at hm; cases hm; exact h.to
    · exact h.ok j m (by omega) hm
theorem refsOf_succ {l : List TEnt} {k : Nat} {e : TEnt} (he : l[k]? = some e) : refsOf (l.take (k + 1)) = refsOf (l.take k) ++ [e.node.toNat] := by
  unfold refsOf
  rw [List.take_add_one, he]
  simp
theorem listTo_succ {t : TTree} {i k : Nat} {l : List TEnt} {e : TEnt} (h : listTo t i l k) (he : l[k]? = some e) (ha : entAt t i l k e) : listTo t i l (k + 1) := by
  intro j f hj hf
  by_cases c : j = k
  · subst c; rw [he] at hf; cases hf; exact ha
  · exact h j f (by omega) hf
theorem InnerOK.times_succ {t : TTree} {N i k : Nat} {l : List TEnt} {T D : List Int} {e : TEnt} (h : InnerOK t N i l k T D) (he : l[k]? = some e) (hm : e.node.toNat < N) :
    (T.set e.node.toNat (T.getD e.node.toNat 0 + 1)).length = N ∧ ∀ j, j < N → (T.set e.node.toNat (T.getD e.node.toNat 0 + 1)).getD j 0 = ((t.refs i).count j + (refsOf (l.take (k + 1))).count j : Nat) := by
  refine ⟨by simp [h.lt], fun j hj => ?_⟩
  rw [refsOf_succ he, List.count_append]
  by_cases c : e.node.toNat = j
  · subst c
    rw [getD_set_self _ _ _ (by rw [h.lt]; exact hm), h.times _ hj]
    simp; omega
  · rw [getD_set_other _ _ _ _ c, h.times _ hj]
    have : List.count j [e.node.toNat] = 0 := by simp [c]
    rw [this]; simp
theorem InnerOK.dirStep {t : TTree} {N i k : Nat} {l : List TEnt} {T D : List Int} {e : TEnt} {x : TNode} (h : InnerOK t N i l k T D) (hi : i < N) (he : l[k]? = some e) (ha : entAt t i l k e) (hx : t.nodes[e.node.toNat]? = some x) (hk : x.kind = 2) (hm : e.node.toNat < N) :
    InnerOK t N i l (k + 1) (T.set e.node.toNat (T.getD e.node.toNat 0 + 1)) (D.set i (D.getD i 0 + 1)) := by
  have hat : t.at e.node = x := by simp [TTree.at, hx]
  obtain ⟨h1, h2⟩ := h.times_succ he hm
  refine ⟨h1, by simp [h.ld], h2, fun j n hj hn => ?_, ?_, fun j hj => ?_, h.ok, listTo_succ h.to he ha⟩
  · rw [getD_set_other _ _ _ _ (by omega)]; exact h.dirs j n hj hn
  · rw [getD_set_self _ _ _ (by rw [h.ld]; exact hi), h.dir]
    unfold dirsOf
    rw [List.take_add_one, he]
    simp [hat, hk]
  · rw [getD_set_other _ _ _ _ (by omega)]; exact h.zero j hj
theorem InnerOK.otherStep {t : TTree} {N i k : Nat} {l : List TEnt} {T D : List Int} {e : TEnt} {x : TNode} (h : InnerOK t N i l k T D) (he : l[k]? = some e) (ha : entAt t i l k e) (hx : t.nodes[e.node.toNat]? = some x) (hk : x.kind ≠ 2) (hm : e.node.toNat < N) :
    InnerOK t N i l (k + 1) (T.set e.node.toNat (T.getD e.node.toNat 0 + 1)) D := by
  have hat : t.at e.node = x := by simp [TTree.at, hx]
  obtain ⟨h1, h2⟩ := h.times_succ he hm
  refine ⟨h1, h.ld, h2, h.dirs, ?_, h.zero, h.ok, listTo_succ h.to he ha⟩
  rw [h.dir]
  unfold dirsOf
  rw [List.take_add_one, he]
  simp [hat, hk]
theorem InnerOK.bad {t : TTree} {i k : Nat} {n : TNode} {e : TEnt} (hn : t.nodes[i]? = some n) (he : n.list[k]? = some e) (ha : ¬ entAt t i n.list k e) : ¬ ∀ i n, t.nodes[i]? = some n → listOK t i n := by
  intro h
  exact ha (h i n hn k e (List.getElem?_eq_some_iff.1 he).1 he)
theorem refs_length_le (t : TTree) (hl : ∀ n ∈ t.nodes, n.list.length ≤ 512) (i : Nat) : (t.refs i).length ≤ i * 512 := by
  unfold TTree.refs
  induction i with
  | zero => simp
  | succ i ih =>
    rw [List.take_add_one, List.flatMap_append, List.length_append]
    have hx : (t.nodes[i]?.toList.flatMap fun n => refsOf n.list).length ≤ 512 := by
      cases hn : t.nodes[i]? with
      | none => simp
      | some n =>
        have := hl n (List.mem_of_getElem? hn)
        simpa [refsOf] using this
    omega
theorem InnerOK.bounds {t : TTree} {N i k : Nat} {l : List TEnt} {T D : List Int} (h : InnerOK t N i l k T D) (hl : ∀ n ∈ t.nodes, n.list.length ≤ 512) (hl5 : l.length ≤ 512) (hi : i ≤ 513) (j : Nat) (hj : j < N) :
    (0 ≤ T.getD j 0 ∧ T.getD j 0 ≤ 1000000) ∧ 0 ≤ D.getD i 0 ∧ D.getD i 0 ≤ 1000000 := by
  rw [h.times j hj, h.dir]
  have a := List.count_le_length (a := j) (l := t.refs i)
  have b := refs_length_le t hl i
  have c := List.count_le_length (a := j) (l := refsOf (l.take k))
  have d : (refsOf (l.take k)).length ≤ 512 := by simp [refsOf]; omega
  have f : dirsOf t (l.take k) ≤ 512 := by
    have := List.length_filter_le (fun e => (t.at e.node).kind == 2) (l.take k)
    unfold dirsOf
    simp at this ⊢
    omega
  omega
end Go.Proofs.YtdidhelkmnkhcaaDoor
