/- The user 0 comes to all of a tree from its root: the plain part. -/
/- What the steps from the root tell together: the plain part. -/
import Derived.Test.YtdceechakocgfaaDoorW1
import Derived.Test.YtdceechakocgfaaDoorW2
import Derived.Test.YtdceechakocgfaaDoorSizes
namespace Go.Proofs.YtdceechakocgfaaDoor
theorem may0 {x : TNode} (hk : x.kind = 2) (g : Int) : mayB x 0 g 5 = true := by
  unfold mayB
  rw [if_neg (by omega), if_pos rfl, hk]
  simp
theorem kids_full {t : TTree} {n : Int} (hk : (t.at n).kind = 2) (g d : Int) (hd : d < 33) : kidsOf 0 g 33 (t.at n) d = (t.at n).list := by
  unfold kidsOf
  rw [if_pos hd, if_pos (may0 hk g)]
theorem vis_full {t : TTree} (h : TreeOK t) (g j : Int) : ∀ (f : Nat) (n : Int) (d : Int) (k : Nat), Fuel t f n k → ((t.at n).kind = 2 → d = (deepN t 32 n : Nat)) → (visP t 0 g 33 f n d).count j = (if n = j then 1 else 0) + ((visP t 0 g 33 f n d).map (cK t j)).sum
  | 0, _, _, _, hf, _ => hf.elim
  | f + 1, n, d, k, ⟨h0, h1, _, h3⟩, hd => by
    have hc : ∀ l : List Int, (n :: l).count j = (if n = j then 1 else 0) + l.count j := fun l => by
      rw [List.count_cons]
      by_cases h : n = j
      · rw [if_pos h, if_pos (by simpa using h)]; omega
      · rw [if_neg h, if_neg (by simpa using h)]; omega
    unfold visP
    rw [hc, List.map_cons, List.sum_cons]
    by_cases hk : (t.at n).kind = 2
    · simp only [if_pos hk]
      have hda := dirAt_of h h0 h1 hk
      have hdd := hd hk
      have hle := deepN_le t 32 n
      rw [kids_full hk g d (by omega)]
      have h1' := sum_eq (fun e : TEnt => (visP t 0 g 33 f e.node (d + 1)).count j) (fun e => (if e.node = j then 1 else 0) + ((visP t 0 g 33 f e.node (d + 1)).map (cK t j)).sum) (t.at n).list fun e he =>
        vis_full h g j f e.node (d + 1) _ (h3 hk e he).2 fun hk2 => by have := (h.kid_deep hda he hk2).1; omega
      rw [sum_add, sum_ind] at h1'
      rw [sum_flatMap, List.count_flatMap]
      have h2 : (t.at n).list.countP (fun e => e.node == j) = cK t j n := by unfold cK; rw [if_pos hk]
      have h4 : (List.map (List.count j ∘ fun e => visP t 0 g 33 f e.node (d + 1)) (t.at n).list).sum = (List.map (fun e : TEnt => (visP t 0 g 33 f e.node (d + 1)).count j) (t.at n).list).sum := rfl
      omega
    · simp only [if_neg hk]
      have : cK t j n = 0 := by unfold cK; rw [if_neg hk]
      rw [this]
      simp
def visR (t : TTree) (g : Int) : List Int := visP t 0 g 33 40 1 0
theorem fuelR {t : TTree} (h : TreeOK t) : Fuel t 40 1 1 := h.fuel40 (by omega) (by have := h.head.two; omega) (by omega)
theorem visR_count {t : TTree} (h : TreeOK t) (g j : Int) : (visR t g).count j = (if 1 = j then 1 else 0) + ((visR t g).map (cK t j)).sum :=
  vis_full h g j 40 1 0 1 (fuelR h) fun _ => by rw [deepN_one]; rfl
theorem visR_range {t : TTree} (h : TreeOK t) (g : Int) : ∀ x ∈ visR t g, 0 ≤ x ∧ x < t.nodes.length := vis_range 0 g 33 40 1 1 0 (fuelR h)
theorem visR_dir {t : TTree} (h : TreeOK t) (g : Int) : ∀ (m : Nat) (x : Int), DirAt t x → deepN t 32 x = m → (visR t g).count x = 1 := by
  have hr := visR_range h g
  intro m
  induction m with
  | zero =>
    intro x hx hm
    have h1 : x = 1 := by
      rw [deepN] at hm
      split at hm
      · assumption
      · omega
    have hc := visR_count h g x
    have hz : ((visR t g).map (cK t x)).sum = 0 := by
      rw [sum_one t x 1 _ fun y hy _ => ?_]
      · by_cases h0 : cK t x 1 = 0
        · rw [h0]; omega
        · have := cK_parent h hx.2.2 (dirAt_root h) h0; omega
      · by_cases hk : (t.at y).kind = 2
        · by_cases h0 : cK t x y = 0
          · exact h0
          · have := cK_parent h hx.2.2 (dirAt_of h (hr y hy).1 (hr y hy).2 hk) h0; omega
        · unfold cK; rw [if_neg hk]
    rw [hz, h1, if_pos rfl] at hc
    rw [h1]; exact hc
  | succ m ih =>
    intro x hx hm
    have h1 : x ≠ 1 := fun e => by rw [e, deepN_one] at hm; omega
    have hp := dirAt_parent h hx
    obtain ⟨i, y, e, hi, he, hex, hpi⟩ := h.listing (by have := hx.1; omega) hx.2.1 hx.2.2
    have hat : t.at (t.at x).parent = y := by rw [hpi]; exact at_eq (by simpa using hi)
    have hpd : deepN t 32 (t.at x).parent = m := by
      have := (h.kid_deep hp (e := e) (by rw [hat]; exact he) (by rw [hex]; exact hx.2.2)).1
      rw [hex] at this
      omega
    have hpc := ih _ hp hpd
    have hc := visR_count h g x
    rw [sum_one t x (t.at x).parent _ fun y hy hne => ?_] at hc
    · have hc1 := h.cK_le (by have := hx.1; omega) hx.2.1 hx.2.2 (by have := hp.1; omega) hp.2.1
      have hc2 : 0 < cK t x (t.at x).parent := by
        unfold cK
        rw [if_pos hp.2.2, hat]
        exact List.countP_pos_iff.2 ⟨e, he, by simpa using hex⟩
      rw [if_neg (fun e => h1 e.symm), hpc] at hc
      omega
    · by_cases hk : (t.at y).kind = 2
      · by_cases h0 : cK t x y = 0
        · exact h0
        · exact absurd (cK_parent h hx.2.2 (dirAt_of h (hr y hy).1 (hr y hy).2 hk) h0).1 hne
      · unfold cK; rw [if_neg hk]
theorem visR_times {t : TTree} (h : TreeOK t) (g : Int) {j : Int} (hj : 1 < j) : (visR t g).count j = t.times j.toNat := by
  have hc := visR_count h g j
  rw [if_neg (by omega), Nat.zero_add, sum_count t.nodes.length (cK t j) _ (visR_range h g)] at hc
  rw [hc, ← h.times_rs (by omega)]
  refine rs_congr _ _ _ fun i hi => ?_
  by_cases hk : (t.at (i : Int)).kind = 2
  · rw [visR_dir h g _ (i : Int) (dirAt_of h (by omega) (by omega) hk) rfl]; omega
  · have : cK t j (i : Int) = 0 := by unfold cK; rw [if_neg hk]
    rw [this]; simp
/-- How often each node is come to. -/
theorem visR_links {t : TTree} (h : TreeOK t) (g : Int) {j : Nat} {x : TNode} (h1 : 1 ≤ j) (hx : t.nodes[j]? = some x) (hk0 : 0 ≤ x.kind ∧ x.kind ≤ 255) : ((visR t g).count (j : Int) : Int) = if x.kind = 2 then 1 else x.links := by
  have hjl := (List.getElem?_eq_some_iff.1 hx).1
  have hat : t.at (j : Int) = x := at_eq (by simpa using hx)
  by_cases hk : x.kind = 2
  · rw [if_pos hk, visR_dir h g _ (j : Int) ⟨by omega, by omega, by rw [hat]; exact hk⟩ rfl]; rfl
  · rw [if_neg hk]
    have hj1 : 1 < (j : Int) := by
      by_cases hz : j = 1
      · subst hz
        have := h.head.root
        rw [show (1 : Int) = ((1 : Nat) : Int) from rfl, hat] at this
        exact absurd this hk
      · omega
    rw [visR_times h g hj1]
    have hkk := h.each x (List.mem_of_getElem? hx)
    by_cases hz : x.kind = 0
    · have hl : x.links = 0 := by
        unfold TNode.ok TNode.byKind at hkk
        rw [Bool.and_eq_true, if_pos hz, TNode.k0, decide_eq_true_iff] at hkk
        exact hkk.2.2.2.2.1
      rw [hl]
      have hno : t.times ((j : Int).toNat) = 0 := by
        unfold TTree.times
        rw [List.count_eq_zero]
        intro hm
        obtain ⟨i, n, e, hi, he, hej⟩ := mem_refs hm
        obtain ⟨k, hk'⟩ := List.getElem?_of_mem he
        have ho := h.lists i n hi k e (List.getElem?_eq_some_iff.1 hk').1 hk'
        have : e.node = (j : Int) := by have := ho.2.2.1; omega
        have h5 := ho.2.2.2.2.1
        rw [this, hat] at h5
        exact h5 hz
      rw [hno]; rfl
    · have hk3 : x.kind = 1 ∨ x.kind = 3 := by
        unfold TNode.ok TNode.nums at hkk
        rw [Bool.and_eq_true, decide_eq_true_iff] at hkk
        have := hkk.1.1
        omega
      have := ((h.link j x hx).2 hk3).2
      rw [this]
      congr 2
theorem walk_shut {t : TTree} (h : TreeOK t) (g : Int) : ∀ (f : Nat) (n : Int) (p : ByteArray) (d : Int), (walkP t 0 g 33 f n p d).2 = []
  | 0, _, _, _ => rfl
  | f + 1, n, p, d => by
    unfold walkP
    split
    · rename_i hk
      dsimp only
      have h1 : shutOf 0 g 33 (t.at n) p d = [] := by
        unfold shutOf
        split
        · rw [if_pos (may0 hk g)]
        · rfl
      rw [h1, List.nil_append]
      rw [List.flatMap_eq_nil_iff]
      intro e _
      exact walk_shut h g f _ _ _
    · rfl
end Go.Proofs.YtdceechakocgfaaDoor
namespace Go.Proofs.YtdceechakocgfaaDoor
def szN (x : TNode) : Nat := x.data.length + x.target.size + x.list.length
theorem sizeN_eq (x : TNode) : sizeN x = (szN x : Nat) := by unfold sizeN szN; push_cast; rfl
def Vld (t : TTree) (n : Int) : Prop := ¬ (n < 1 ∨ (t.nodes.length : Int) ≤ n ∨ (t.at n).kind = 0)
instance (t : TTree) (n : Int) : Decidable (Vld t n) := by unfold Vld; exact inferInstance
def gone (t : TTree) (ns : List Int) (i : Nat) : Nat := if Vld t i ∧ (t.at i).kind ≠ 2 ∧ 0 < ns.count (i : Int) then szN (t.at i) else 0
structure SzInv (t : TTree) (st : SzSt) (ns : List Int) : Prop where
  seen : ∀ n, st.seen n = (if Vld t n then ((ns.count n : Nat) : Int) else (0 : Int))
  cur : st.sums.getD st.out.length 0 = (rs t.nodes.length (gone t ns) : Nat)
  zero : st.sums.getD 0 0 = 0
  len : st.sums.length = st.out.length + 1
theorem getD_snoc (l : List Int) (v : Int) (k : Nat) (h : l.length = k) : (l ++ [v]).getD k 0 = v := by
  subst h
  rw [List.getD_eq_getElem?_getD, List.getElem?_append_right (Nat.le_refl _), Nat.sub_self]; rfl
theorem getD_snoc0 (l : List Int) (v : Int) (k : Nat) (h : k < l.length) : (l ++ [v]).getD k 0 = l.getD k 0 := by
  rw [List.getD_eq_getElem?_getD, List.getElem?_append_left h, ← List.getD_eq_getElem?_getD]
theorem count_snoc (ns : List Int) (n m : Int) : (ns ++ [n]).count m = ns.count m + if n = m then 1 else 0 := by
  rw [List.count_append, List.count_cons, List.count_nil]
  by_cases h : n = m
  · rw [if_pos h, if_pos (by simpa using h)]
  · rw [if_neg h, if_neg (by simpa using h)]
theorem rs_bump (N : Nat) (a b : Nat → Nat) (n : Int) (h0 : 0 ≤ n) (h1 : n < N) (v : Nat) (hn : b n.toNat = a n.toNat + v) (h : ∀ i, i < N → (i : Int) ≠ n → b i = a i) : rs N b = rs N a + v := by
  have e : rs N b = rs N fun i => (if n = (i : Int) then 1 else 0) * v + a i := rs_congr _ _ _ fun i hi => by
    by_cases he : n = (i : Int)
    · rw [if_pos he, show i = n.toNat by omega, hn]; omega
    · rw [if_neg he, h i hi (fun e => he e.symm)]; omega
  rw [e, rs_add, rs_single N n (fun _ => v) h0 h1]; omega
theorem SzInv.step {t : TTree} {st : SzSt} {ns : List Int} (h : SzInv t st ns) (x : TStep) : SzInv t (szStep t st x) (ns ++ [x.node]) := by
  have hc := h.cur
  have hlen := h.len
  have hsame : (¬ Vld t x.node ∨ (t.at x.node).kind = 2 ∨ 0 < ns.count x.node) → rs t.nodes.length (gone t (ns ++ [x.node])) = rs t.nodes.length (gone t ns) := fun hv => rs_congr _ _ _ fun i _ => by
    unfold gone
    rw [count_snoc]
    by_cases he : x.node = (i : Int)
    · rw [he] at hv
      rcases hv with h1 | h1 | h1
      · rw [if_neg (fun a => h1 a.1), if_neg (fun a => h1 a.1)]
      · rw [if_neg (fun a => a.2.1 h1), if_neg (fun a => a.2.1 h1)]
      · have : (0 < ns.count (i : Int) + if x.node = (i : Int) then 1 else 0) ↔ 0 < ns.count (i : Int) := ⟨fun _ => h1, fun _ => by omega⟩
        simp only [this]
    · rw [if_neg he, Nat.add_zero]
  unfold szStep
  dsimp only
  by_cases hv : Vld t x.node
  · have hsx := h.seen x.node
    rw [if_pos hv] at hsx
    have hs : ∀ n, (if n = x.node then st.seen x.node + 1 else st.seen n) = (if Vld t n then (((ns ++ [x.node]).count n : Nat) : Int) else (0 : Int)) := fun n => by
      rw [count_snoc]
      by_cases he : n = x.node
      · subst he
        rw [if_pos rfl, if_pos hv, hsx]; simp
      · have h0 : (if x.node = n then 1 else 0 : Nat) = 0 := if_neg fun e => he e.symm
        rw [if_neg he, h.seen, h0, Nat.add_zero]
    rw [if_neg hv]
    by_cases hk : (t.at x.node).kind = 2
    · rw [if_neg (by simpa using hk)]
      have he := hsame (.inr (.inl hk))
      split
      · exact ⟨hs, by rw [List.length_append, List.length_singleton, getD_snoc _ _ _ hlen, hc, he], by rw [getD_snoc0 _ _ _ (by omega)]; exact h.zero, by simp [hlen]⟩
      · split
        · exact ⟨hs, by rw [List.length_append, List.length_singleton, getD_snoc _ _ _ hlen, hc, he], by rw [getD_snoc0 _ _ _ (by omega)]; exact h.zero, by simp [hlen]⟩
        · exact ⟨hs, by rw [List.length_append, List.length_singleton, getD_snoc _ _ _ hlen, hc, he], by rw [getD_snoc0 _ _ _ (by omega)]; exact h.zero, by simp [hlen]⟩
    · rw [if_pos hk]
      split
      · rename_i h1
        refine ⟨hs, ?_, by rw [getD_snoc0 _ _ _ (by omega)]; exact h.zero, by simp [hlen]⟩
        rw [List.length_append, List.length_singleton, getD_snoc _ _ _ hlen, hc, sizeN_eq]
        have h0 : ns.count x.node = 0 := by omega
        have hvv := hv
        unfold Vld at hvv
        have hb := rs_bump t.nodes.length (gone t ns) (gone t (ns ++ [x.node])) x.node (by omega) (by omega) (szN (t.at x.node)) ?_ ?_
        · rw [hb]; push_cast; rfl
        · unfold gone
          rw [show ((x.node.toNat : Nat) : Int) = x.node by omega, count_snoc, if_pos rfl, h0, if_pos ⟨hv, hk, by omega⟩, if_neg (fun a => by omega)]; omega
        · intro i _ hi
          unfold gone
          have h0 : (if x.node = (i : Int) then 1 else 0 : Nat) = 0 := if_neg fun e => hi e.symm
          rw [count_snoc, h0, Nat.add_zero]
      · rename_i h1
        have he := hsame (.inr (.inr (by omega)))
        exact ⟨hs, by rw [List.length_append, List.length_singleton, getD_snoc _ _ _ hlen, hc, he], by rw [getD_snoc0 _ _ _ (by omega)]; exact h.zero, by simp [hlen]⟩
  · have hvv : x.node < 1 ∨ (t.nodes.length : Int) ≤ x.node ∨ (t.at x.node).kind = 0 := by unfold Vld at hv; exact Decidable.not_not.1 hv
    rw [if_pos hvv]
    have he := hsame (.inl hv)
    refine ⟨fun n => ?_, by rw [List.length_append, List.length_singleton, getD_snoc _ _ _ hlen, hc, he], by rw [getD_snoc0 _ _ _ (by omega)]; exact h.zero, by simp [hlen]⟩
    rw [h.seen, count_snoc]
    by_cases he : x.node = n
    · rw [← he, if_neg hv, if_neg hv]
    · have h0 : (if x.node = n then 1 else 0 : Nat) = 0 := if_neg he
      rw [h0, Nat.add_zero]
theorem szInv_fold {t : TTree} : ∀ (l : List TStep) (st : SzSt) (ns : List Int), SzInv t st ns → SzInv t (l.foldl (szStep t) st) (ns ++ l.map fun s => s.node)
  | [], st, ns, h => by simpa using h
  | x :: l, st, ns, h => by
    have := szInv_fold l _ _ (h.step x)
    simpa using this
theorem szInv_init (t : TTree) : SzInv t szInit [] := by
  refine ⟨fun n => by simp [szInit], ?_, rfl, rfl⟩
  rw [rs_none]
  · rfl
  · intro i _
    unfold gone
    rw [if_neg (fun a => by have := a.2.2; simp at this)]
theorem open_fold {t : TTree} (k : ByteArray × Int × Int) : ∀ (l : List TStep) (st : SzSt), (∀ s ∈ l, (s.path, s.node, s.depth) ≠ k) → (l.foldl (szStep t) st).opn k = st.opn k
  | [], _, _ => rfl
  | x :: l, st, h => by
    rw [List.foldl_cons, open_fold k l _ fun s hs => h s (List.mem_cons_of_mem _ hs)]
    have hx := h x List.mem_cons_self
    unfold szStep
    dsimp only
    split
    · rfl
    · split
      · split <;> rfl
      · split
        · dsimp only; rw [if_neg (fun e => hx e.symm)]
        · split
          · dsimp only; rw [if_neg (fun e => hx e.symm)]
          · rfl
theorem walk_depth (t : TTree) (u g deepest : Int) : ∀ (f : Nat) (n : Int) (p : ByteArray) (d : Int), ∀ s ∈ (walkP t u g deepest f n p d).1, d ≤ s.depth
  | 0, _, _, _, s, hs => by cases hs
  | f + 1, n, p, d, s, hs => by
    unfold walkP at hs
    split at hs
    · dsimp only at hs
      simp only [List.cons_append, List.mem_cons, List.mem_append, List.mem_flatMap, List.not_mem_nil, or_false] at hs
      rcases hs with rfl | ⟨e, _, hse⟩ | rfl
      · exact Int.le_refl _
      · have := walk_depth t u g deepest f e.node _ _ s hse
        omega
      · exact Int.le_refl _
    · simp only [List.mem_cons, List.not_mem_nil, or_false] at hs
      subst hs
      exact Int.le_refl _
def rootP : ByteArray := ⟨#[47]⟩
def wayR (t : TTree) (g : Int) : List TStep := (walkP t 0 g 33 40 1 rootP 0).1
def TTree.aims (t : TTree) (i : Nat) : Nat := ((t.nodes.take i).map fun n => n.target.size).sum
theorem walk_root {t : TTree} (hk1 : (t.at 1).kind = 2) (g : Int) (f : Nat) : (walkP t 0 g 33 (f + 1) 1 rootP 0).1 = (⟨rootP, 1, 0, false⟩ :: ((t.at 1).list.flatMap fun e => (walkP t 0 g 33 f e.node (joinB rootP e.name) 1).1)) ++ [⟨rootP, 1, 0, true⟩] := by
  conv => lhs; unfold walkP
  rw [if_pos hk1]
  dsimp only
  rw [kids_full hk1 g 0 (by omega), Int.zero_add]
theorem all_last {t : TTree} (h : TreeOK t) (hF : t.Fits) (g : Int) : 2 ≤ (wayR t g).length ∧ (szOut t (wayR t g)).getD ((wayR t g).length - 1) 0 = ((t.bytes t.nodes.length + t.aims t.nodes.length : Nat) : Int) := by
  have hk1 : (t.at 1).kind = 2 := h.head.root
  have hway : wayR t g = (⟨rootP, 1, 0, false⟩ :: ((t.at 1).list.flatMap fun e => (walkP t 0 g 33 39 e.node (joinB rootP e.name) 1).1)) ++ [⟨rootP, 1, 0, true⟩] := by
    unfold wayR
    exact walk_root hk1 g 39
  obtain ⟨mid, hmid⟩ : ∃ y, y = (t.at 1).list.flatMap fun e => (walkP t 0 g 33 39 e.node (joinB rootP e.name) 1).1 := ⟨_, rfl⟩
  have hdep : ∀ s ∈ mid, 1 ≤ s.depth := fun s hs => by
    rw [hmid] at hs
    obtain ⟨e, _, hse⟩ := List.mem_flatMap.1 hs
    exact walk_depth t 0 g 33 39 _ _ _ s hse
  rw [← hmid] at hway
  clear hmid
  refine ⟨by rw [hway]; simp, ?_⟩
  have hst0 : szStep t szInit ⟨rootP, 1, 0, false⟩ = { seen := fun n => if n = 1 then 1 else 0, opn := fun k => if k = (rootP, 1, 0) then some 0 else none, sums := [0, 0], out := [0] } := by
    unfold szStep
    have h2 := h.head.two
    dsimp only
    rw [if_neg (by omega), if_neg (by simpa using hk1), if_pos rfl]
    rfl
  have hrun : szRun t (wayR t g) = szStep t (szRun t (⟨rootP, 1, 0, false⟩ :: mid)) ⟨rootP, 1, 0, true⟩ := by
    rw [hway]; exact szRun_snoc _ _ _
  have hopn : (szRun t (⟨rootP, 1, 0, false⟩ :: mid)).opn (rootP, 1, 0) = some 0 := by
    unfold szRun
    rw [List.foldl_cons, open_fold _ _ _ (fun s hs e => by have := hdep s hs; simp only [Prod.mk.injEq] at e; omega), hst0]
    simp
  have hinv : SzInv t (szRun t (⟨rootP, 1, 0, false⟩ :: mid)) ((⟨rootP, 1, 0, false⟩ :: mid : List TStep).map fun s => s.node) := by
    have := szInv_fold (⟨rootP, 1, 0, false⟩ :: mid) _ _ (szInv_init t)
    simpa [szRun] using this
  have hlen := szRun_len t (⟨rootP, 1, 0, false⟩ :: mid)
  have hout : (szOut t (wayR t g)) = (szRun t (⟨rootP, 1, 0, false⟩ :: mid)).out ++ [(szRun t (⟨rootP, 1, 0, false⟩ :: mid)).sums.getD (szRun t (⟨rootP, 1, 0, false⟩ :: mid)).out.length 0 - (szRun t (⟨rootP, 1, 0, false⟩ :: mid)).sums.getD 0 0] := by
    unfold szOut
    rw [treeOK_yes h, if_pos rfl, hrun]
    have h2 := h.head.two
    conv => lhs; unfold szStep
    dsimp only
    rw [if_neg (by omega), if_neg (by simpa using hk1), if_neg (by simp), hopn]
  have hl : (wayR t g).length - 1 = (szRun t (⟨rootP, 1, 0, false⟩ :: mid)).out.length := by rw [hway, hlen.1]; simp
  rw [hout, hl, getD_snoc _ _ _ rfl, hinv.cur, hinv.zero]
  have hsum : rs t.nodes.length (gone t ((⟨rootP, 1, 0, false⟩ :: mid : List TStep).map fun s => s.node)) = t.bytes t.nodes.length + t.aims t.nodes.length := by
    unfold TTree.bytes TTree.aims
    rw [take_rs t.nodes (fun n => n.data.length) _ (Nat.le_refl _), take_rs t.nodes (fun n => n.target.size) _ (Nat.le_refl _), ← rs_add]
    refine rs_congr _ _ _ fun i hi => ?_
    obtain ⟨x, hx⟩ : ∃ x, t.nodes[i]? = some x := ⟨t.nodes[i]'hi, by simp⟩
    have hat : t.at (i : Int) = x := at_eq (by simpa using hx)
    have hgd : t.nodes.getD i zNode = x := by rw [List.getD_eq_getElem?_getD, hx]; rfl
    have hok := h.each x (List.mem_of_getElem? hx)
    rw [hgd]
    unfold gone
    rw [hat]
    by_cases hk2 : x.kind = 2
    · rw [if_neg (fun a => a.2.1 hk2)]
      unfold TNode.ok TNode.byKind at hok
      rw [Bool.and_eq_true, if_neg (by omega), if_neg (by omega), if_pos hk2, TNode.k2, decide_eq_true_iff] at hok
      omega
    · by_cases hk0 : x.kind = 0
      · rw [if_neg (fun a => by have := a.1; unfold Vld at this; rw [hat] at this; omega)]
        unfold TNode.ok TNode.byKind at hok
        rw [Bool.and_eq_true, if_pos hk0, TNode.k0, decide_eq_true_iff] at hok
        omega
      · have hi1 : 1 < i := by
          by_cases h0 : i = 0
          · subst h0; have := h.head.zero; rw [show (0 : Int) = ((0 : Nat) : Int) from rfl, hat] at this; omega
          · by_cases h1 : i = 1
            · subst h1; have := h.head.root; rw [show (1 : Int) = ((1 : Nat) : Int) from rfl, hat] at this; omega
            · omega
        have hv : Vld t (i : Int) := by unfold Vld; rw [hat]; omega
        have hcnt : 0 < (visR t g).count (i : Int) := by
          have hk3 : x.kind = 1 ∨ x.kind = 3 := by
            have hff := (hF.each x (List.mem_of_getElem? hx)).kind
            unfold TNode.ok TNode.nums at hok
            rw [Bool.and_eq_true, decide_eq_true_iff] at hok
            have := hok.1.1
            omega
          rw [visR_times h g (by omega), show ((i : Int)).toNat = i by omega]
          have := ((h.link i x hx).2 hk3).1
          omega
        have hcm : 0 < ((⟨rootP, 1, 0, false⟩ :: mid : List TStep).map fun s => s.node).count (i : Int) := by
          have hw := walk_vis t 0 g 33 40 1 rootP 0
          have hw2 : visR t g = ((wayR t g).filter fun s => !s.after).map fun s => s.node := by unfold visR wayR; exact hw.symm
          rw [hw2, hway, List.filter_append] at hcnt
          have hm := List.count_pos_iff.1 hcnt
          refine List.count_pos_iff.2 ?_
          obtain ⟨s, hs, hsn⟩ := List.mem_map.1 hm
          rcases List.mem_append.1 hs with hs | hs
          · exact List.mem_map.2 ⟨s, (List.mem_filter.1 hs).1, hsn⟩
          · simp at hs
        rw [if_pos ⟨hv, hk2, hcm⟩]
        unfold szN
        have := no_list hok hk2
        rw [this]
        simp
  rw [hsum]
  omega
end Go.Proofs.YtdceechakocgfaaDoor
