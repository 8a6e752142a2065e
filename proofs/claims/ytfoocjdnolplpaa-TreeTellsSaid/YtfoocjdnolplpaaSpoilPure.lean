/- A tree that may be, with one number of one node changed: plain. -/
import Derived.Test.YtfoocjdnolplpaaTree
import Derived.Test.YtfoocjdnolplpaaCheck
namespace Go.Proofs.Ytfoocjdnolplpaa
def TTree.put (t : TTree) (k : Nat) (m : TNode) : TTree := ⟨t.nodes.set k m, t.now⟩
theorem put_get {t : TTree} {k : Nat} {n m : TNode} (hn : t.nodes[k]? = some n) (i : Nat) : (t.put k m).nodes[i]? = if i = k then some m else t.nodes[i]? := by
  unfold TTree.put
  rw [List.getElem?_set]
  have := (List.getElem?_eq_some_iff.1 hn).1
  by_cases e : k = i
  · subst e; simp [this]
  · rw [if_neg e, if_neg (Ne.symm e)]
theorem put_len (t : TTree) (k : Nat) (m : TNode) : (t.put k m).nodes.length = t.nodes.length := by simp [TTree.put]
theorem put_at {t : TTree} {k : Nat} {n m : TNode} (hn : t.nodes[k]? = some n) (j : Int) : (t.put k m).at j = if j.toNat = k then m else t.at j := by
  unfold TTree.at
  rw [List.getD_eq_getElem?_getD, put_get hn, List.getD_eq_getElem?_getD]
  split <;> rfl
theorem at_get {t : TTree} {k : Nat} {n : TNode} (hn : t.nodes[k]? = some n) {j : Int} (hj : j.toNat = k) : t.at j = n := by
  unfold TTree.at; rw [List.getD_eq_getElem?_getD, hj, hn]; rfl
theorem put_kind {t : TTree} {k : Nat} {n m : TNode} (hn : t.nodes[k]? = some n) (hk : m.kind = n.kind) (j : Int) : ((t.put k m).at j).kind = (t.at j).kind := by
  rw [put_at hn]
  split
  · rename_i h; rw [hk, at_get hn h]
  · rfl
theorem put_lists {t : TTree} {k : Nat} {n m : TNode} (hn : t.nodes[k]? = some n) (hl : m.list = n.list) : (t.put k m).nodes.map TNode.list = t.nodes.map TNode.list := by
  apply List.ext_getElem?
  intro i
  rw [List.getElem?_map, List.getElem?_map, put_get hn]
  split
  · rename_i h; subst h; rw [hn]; simp [hl]
  · rfl
theorem refs_lists (t : TTree) (i : Nat) : t.refs i = ((t.nodes.map TNode.list).take i).flatMap refsOf := by
  unfold TTree.refs
  rw [← List.map_take, List.flatMap_map]
theorem put_refs {t : TTree} {k : Nat} {n m : TNode} (hn : t.nodes[k]? = some n) (hl : m.list = n.list) (i : Nat) : (t.put k m).refs i = t.refs i := by
  rw [refs_lists, refs_lists, put_lists hn hl]
theorem put_times {t : TTree} {k : Nat} {n m : TNode} (hn : t.nodes[k]? = some n) (hl : m.list = n.list) (j : Nat) : (t.put k m).times j = t.times j := by
  unfold TTree.times
  rw [put_len, put_refs hn hl]
theorem put_dirs {t : TTree} {k : Nat} {n m : TNode} (hn : t.nodes[k]? = some n) (hk : m.kind = n.kind) (l : List TEnt) : dirsOf (t.put k m) l = dirsOf t l := by
  unfold dirsOf
  simp only [put_kind hn hk]
theorem kind_of {n : TNode} (h : n.ok = true) : 0 ≤ n.kind → n.kind ≤ 3 := by
  intro _
  rw [TNode.ok, Bool.and_eq_true, TNode.nums, decide_eq_true_iff] at h
  exact h.1.1
theorem spoil_links {t : TTree} (ht : TreeOK t) {k : Nat} {n : TNode} (hn : t.nodes[k]? = some n) (h0 : 0 ≤ n.kind) (hk : n.kind ≠ 0) (x : Int) (hx : x ≠ n.links) : ¬ TreeOK (t.put k { n with links := x }) := by
  intro h
  have hk3 := kind_of (ht.each n (List.mem_of_getElem? hn)) h0
  obtain ⟨a1, a2⟩ := ht.link k n hn
  obtain ⟨b1, b2⟩ := h.link k { n with links := x } (by rw [put_get hn]; simp)
  by_cases h2 : n.kind = 2
  · have e1 := (a1 h2).1
    have e2 := (b1 h2).1
    rw [put_dirs (m := { n with links := x }) hn rfl] at e2
    exact hx (e2.trans e1.symm)
  · have h13 : n.kind = 1 ∨ n.kind = 3 := by omega
    have e1 := (a2 h13).2
    have e2 := (b2 h13).2
    rw [put_times (m := { n with links := x }) hn rfl] at e2
    exact hx (e2.trans e1.symm)
theorem spoil_parent {t : TTree} (ht : TreeOK t) {k : Nat} (hk1 : 1 ≤ k) {n : TNode} (hn : t.nodes[k]? = some n) (h0 : 0 ≤ n.kind) (hk : n.kind ≠ 0) (x : Int) (hx : x ≠ n.parent) : ¬ TreeOK (t.put k { n with parent := x }) := by
  intro h
  have hk3 := kind_of (ht.each n (List.mem_of_getElem? hn)) h0
  have hm : (t.put k { n with parent := x }).nodes[k]? = some { n with parent := x } := by rw [put_get hn]; simp
  have ok1 := ht.each n (List.mem_of_getElem? hn)
  have ok2 := h.each _ (List.mem_of_getElem? hm)
  by_cases h2 : n.kind = 2
  · by_cases hk' : k = 1
    · subst hk'
      have e1 := ht.head.rootp
      have e2 := h.head.rootp
      rw [at_get hn (j := 1) rfl] at e1
      rw [put_at hn] at e2
      exact hx (e2.trans e1.symm)
    · have e1 := ((ht.link k n hn).1 h2).2.1 (by omega)
      have hmem : k ∈ t.refs t.nodes.length := by
        rw [← List.count_pos_iff]
        unfold TTree.times at e1
        omega
      unfold TTree.refs at hmem
      rw [List.take_length, List.mem_flatMap] at hmem
      obtain ⟨p, hp, hkp⟩ := hmem
      unfold refsOf at hkp
      rw [List.mem_map] at hkp
      obtain ⟨e, he, hek⟩ := hkp
      obtain ⟨i, hi⟩ := List.getElem?_of_mem hp
      obtain ⟨j, hj⟩ := List.getElem?_of_mem he
      have hjl := (List.getElem?_eq_some_iff.1 hj).1
      obtain ⟨-, -, -, -, -, c1⟩ := ht.lists i p hi j e hjl hj
      have c2 : (t.at e.node).parent = i := c1 (by rw [at_get hn hek]; exact h2)
      rw [at_get hn hek] at c2
      have hat : (t.put k { n with parent := x }).at e.node = { n with parent := x } := at_get hm hek
      by_cases hik : i = k
      · subst hik
        have hpn : p = n := by rw [hi] at hn; injection hn
        subst hpn
        obtain ⟨-, -, -, -, -, d1⟩ := h.lists i _ hm j e hjl hj
        have d2 := d1 (by rw [hat]; exact h2)
        rw [hat] at d2
        exact hx (d2.trans c2.symm)
      · obtain ⟨-, -, -, -, -, d1⟩ := h.lists i p (by rw [put_get hn, if_neg hik]; exact hi) j e hjl hj
        have d2 := d1 (by rw [hat]; exact h2)
        rw [hat] at d2
        exact hx (d2.trans c2.symm)
  · have hp : n.parent = 0 ∧ x = 0 := by
      rw [TNode.ok, Bool.and_eq_true] at ok1 ok2
      have k1 := ok1.2
      have k2 := ok2.2
      unfold TNode.byKind at k1 k2
      rw [if_neg hk, if_neg h2] at k1
      rw [if_neg (show ¬ ({ n with parent := x } : TNode).kind = 0 from hk), if_neg (show ¬ ({ n with parent := x } : TNode).kind = 2 from h2)] at k2
      by_cases h1 : n.kind = 1
      · rw [if_pos h1] at k1
        rw [if_pos (show ({ n with parent := x } : TNode).kind = 1 from h1)] at k2
        rw [TNode.k1, decide_eq_true_iff] at k1 k2
        exact ⟨k1.2.2.2, k2.2.2.2⟩
      · rw [if_neg h1] at k1
        rw [if_neg (show ¬ ({ n with parent := x } : TNode).kind = 1 from h1)] at k2
        rw [TNode.k3, decide_eq_true_iff] at k1 k2
        exact ⟨k1.2.2.2.2.2.2, k2.2.2.2.2.2.2⟩
    exact hx (hp.2.trans hp.1.symm)
theorem links_bd {t : TTree} (ht : TreeOK t) {k : Nat} {n : TNode} (hn : t.nodes[k]? = some n) (h0 : 0 ≤ n.kind) (hk : n.kind ≠ 0) : 0 ≤ n.links ∧ n.links ≤ 1000000 := by
  have hk3 := kind_of (ht.each n (List.mem_of_getElem? hn)) h0
  obtain ⟨a1, a2⟩ := ht.link k n hn
  by_cases h2 : n.kind = 2
  · have e1 := (a1 h2).1
    have h1 := node_list_le (ht.each n (List.mem_of_getElem? hn))
    have h3 := List.length_filter_le (fun e => (t.at e.node).kind == 2) n.list
    unfold dirsOf at e1
    omega
  · have e1 := (a2 (by omega)).2
    have a := List.count_le_length (a := k) (l := t.refs t.nodes.length)
    have b := refs_length_le t (fun x hx => node_list_le (ht.each x hx)) t.nodes.length
    have c := ht.head.most
    unfold TTree.times at e1
    omega
theorem parent_bd {t : TTree} (ht : TreeOK t) {k : Nat} (hk1 : 1 ≤ k) {n : TNode} (hn : t.nodes[k]? = some n) (h0 : 0 ≤ n.kind) (hk : n.kind ≠ 0) : 0 ≤ n.parent ∧ n.parent ≤ 1000000 := by
  have hok := ht.each n (List.mem_of_getElem? hn)
  have hk3 := kind_of hok h0
  have hm := ht.head.most
  by_cases h2 : n.kind = 2
  · by_cases hk' : k = 1
    · subst hk'
      have e1 := ht.head.rootp
      rw [at_get hn (j := 1) rfl] at e1
      omega
    · have e1 := ((ht.link k n hn).1 h2).2.2
      have hlt := (List.getElem?_eq_some_iff.1 hn).1
      rw [upB_step t 31 k (by omega) (by omega) (by rw [at_get hn (j := k) (by simp)]; exact h2), at_get hn (j := k) (by simp)] at e1
      by_cases g1 : n.parent < 1
      · rw [upB_low t _ _ g1] at e1; cases e1
      · by_cases g2 : (t.nodes.length : Int) ≤ n.parent
        · have : n.parent ≠ 1 := by have := ht.head.two; omega
          rw [upB_high t _ _ this g2] at e1; cases e1
        · omega
  · rw [TNode.ok, Bool.and_eq_true] at hok
    have k1 := hok.2
    unfold TNode.byKind at k1
    rw [if_neg hk, if_neg h2] at k1
    split at k1
    · rw [TNode.k1, decide_eq_true_iff] at k1; omega
    · rw [TNode.k3, decide_eq_true_iff] at k1; omega
end Go.Proofs.Ytfoocjdnolplpaa
