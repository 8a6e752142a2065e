/- A walk through a tree that may be: so deep, so long; the plain part. -/
/- A walk through a tree that may be: who is come to, how often; the plain part. -/
/- A walk through a tree that may be: each directory is come to once at most; how long a walk is; the plain part. -/
import Derived.Test.YtbfcfjgcmideeaaGreatDoorW6
import Derived.Test.YtbfcfjgcmideeaaGreatDoorM5
namespace Go.Proofs.YtbfcfjgcmideeaaGreatDoor
theorem deepN_stable (t : TTree) : ∀ (k : Nat) (n : Int), upB t k n = true → deepN t (k + 1) n = deepN t k n
  | 0, n, h => by
    have : n = 1 := by simpa [upB] using h
    subst this
    rw [deepN_one, deepN_one]
  | k + 1, n, h => by
    by_cases h1 : n = 1
    · subst h1; rw [deepN_one, deepN_one]
    · obtain ⟨j, hj, -, -, -, hu⟩ := upB_next h h1
      cases hj
      have ih := deepN_stable t k _ hu
      rw [deepN, if_neg h1, ih]
      conv => rhs; rw [deepN, if_neg h1]
/-- What stands in a directory's list. -/
theorem TreeOK.kid {t : TTree} (h : TreeOK t) {n : Int} (hn : DirAt t n) {e : TEnt} (he : e ∈ (t.at n).list) : nameOK e.name = true ∧ 2 ≤ e.node ∧ e.node < t.nodes.length ∧ (t.at e.node).kind ≠ 0 ∧ ((t.at e.node).kind = 2 → (t.at e.node).parent = n) := by
  obtain ⟨x, hx⟩ : ∃ x, t.nodes[n.toNat]? = some x := ⟨t.nodes[n.toNat]'(by have := hn.1; have := hn.2.1; omega), by simp⟩
  have hat := at_eq hx
  rw [hat] at he
  obtain ⟨k, hk⟩ := List.getElem?_of_mem he
  have ho := h.lists _ x hx k e (List.getElem?_eq_some_iff.1 hk).1 hk
  refine ⟨ho.1, ho.2.2.1, ho.2.2.2.1, ho.2.2.2.2.1, fun hk2 => ?_⟩
  rw [ho.2.2.2.2.2 hk2]
  have := hn.1
  omega
theorem TreeOK.kid_dir {t : TTree} (h : TreeOK t) {n : Int} (hn : DirAt t n) {e : TEnt} (he : e ∈ (t.at n).list) (hk : (t.at e.node).kind = 2) : DirAt t e.node := by
  have := h.kid hn he
  exact ⟨by omega, this.2.2.1, hk⟩
theorem TreeOK.kid_deep {t : TTree} (h : TreeOK t) {n : Int} (hn : DirAt t n) {e : TEnt} (he : e ∈ (t.at n).list) (hk : (t.at e.node).kind = 2) : deepN t 32 e.node = deepN t 32 n + 1 ∧ deepN t 32 e.node ≤ 32 := by
  obtain ⟨-, h2, h3, -, h5⟩ := h.kid hn he
  have hp := h5 hk
  obtain ⟨j, hj, -, -, -, hu⟩ := upB_next (h.up (by omega) h3 hk) (by omega : e.node ≠ 1)
  obtain rfl : j = 31 := by omega
  rw [hp] at hu
  have hs := deepN_stable t 31 n hu
  refine ⟨?_, deepN_le t 32 _⟩
  rw [deepN, if_neg (by omega), hp]
  have : deepN t 32 n = deepN t 31 n := hs
  omega
theorem TreeOK.fuel {t : TTree} (h : TreeOK t) : ∀ (f : Nat) (n : Int) (k : Nat), 0 ≤ n → n < t.nodes.length → 1 ≤ f → k + f * 65 ≤ 1000000 → ((t.at n).kind = 2 → 34 ≤ f + deepN t 32 n) → Fuel t f n k
  | 0, _, _, _, _, hf, _, _ => by omega
  | f + 1, n, k, h0, h1, _, hk, hd => by
    refine ⟨h0, h1, by omega, fun hk2 e he => ?_⟩
    have hn1 : 1 ≤ n := by
      by_cases hz : n = 0
      · subst hz; rw [h.head.zero] at hk2; omega
      · omega
    have hda : DirAt t n := ⟨hn1, h1, hk2⟩
    obtain ⟨a1, a2, a3, a4, a5⟩ := h.kid hda he
    have hnm : e.name.size ≤ 64 := by
      unfold nameOK at a1
      have := of_decide_eq_true a1
      exact this.2.1
    have h34 := hd hk2
    have hle := deepN_le t 32 n
    refine ⟨by omega, h.fuel f e.node _ (by omega) a3 (by omega) (by omega) fun hk3 => ?_⟩
    have := h.kid_deep hda he hk3
    omega
theorem TreeOK.fuel40 {t : TTree} (h : TreeOK t) {n : Int} (h0 : 0 ≤ n) (h1 : n < t.nodes.length) {k : Nat} (hk : k ≤ 900000) : Fuel t 40 n k :=
  h.fuel 40 n k h0 h1 (by omega) (by omega) fun _ => by omega
/-- What is found is a node. -/
theorem inGo_node {t : TTree} (h : TreeOK t) (u g : Int) (fl : Bool) : ∀ (f : Nat) (a : Int) (l : List (List UInt8)) (dirs : Bool) (hops : Nat), DirAt t a → 0 ≤ (inGo t u g fl f a l dirs hops).1.node ∧ (inGo t u g fl f a l dirs hops).1.node < t.nodes.length := by
  have hn : 0 ≤ noPlace.node ∧ noPlace.node < t.nodes.length := by have := h.head.two; exact ⟨by decide, by simp only [noPlace]; omega⟩
  intro f
  induction f with
  | zero => intro a l dirs hops _; unfold inGo; exact hn
  | succ f ih =>
    intro a l dirs hops ha
    cases l with
    | nil => unfold inGo; exact ⟨by have := ha.1; dsimp only; omega, ha.2.1⟩
    | cons s rest =>
      have hr := tIn_range h a ⟨s.toArray⟩
      unfold inGo
      split
      · exact hn
      · split
        · exact hn
        · split
          · exact ih _ _ _ _ ha
          · split
            · exact ih _ _ _ _ (dirAt_parent h ha)
            · split
              · split
                · have := h.head.two; exact ⟨by dsimp only; omega, by dsimp only; omega⟩
                · exact hn
              · split
                · split
                  · exact hn
                  · refine ih _ _ _ _ ?_
                    split
                    · exact dirAt_root h
                    · exact ha
                · split
                  · exact hr
                  · split
                    · exact hn
                    · rename_i h6 _ _ h8
                      refine ih _ _ _ _ ⟨?_, hr.2, by simpa using h8⟩
                      rcases tIn_in h a ⟨s.toArray⟩ with h9 | h9
                      · exact absurd h9 h6
                      · omega
theorem findS_node {t : TTree} {u g m d : Int} {p : List UInt8} {fl : Bool} {R : PlaceV × Int} (hR : findS t u g m d p fl = R) (h0 : R.2 = 0) : TreeOK t ∧ 0 ≤ R.1.node ∧ R.1.node < t.nodes.length := by
  unfold findS at hR
  split at hR
  · rename_i hp
    obtain ⟨hT, hD⟩ := permB_dir hp
    refine ⟨hT, ?_⟩
    unfold inS at hR
    split at hR
    · rw [← hR] at h0; exact absurd h0 (by decide)
    · split at hR
      · rw [← hR] at h0; exact absurd h0 (by decide)
      · rw [← hR]
        refine inGo_node hT u g fl _ _ _ _ _ ?_
        split
        · exact dirAt_root hT
        · exact hD
  · rw [← hR] at h0; exact absurd h0 (by decide)
end Go.Proofs.YtbfcfjgcmideeaaGreatDoor
namespace Go.Proofs.YtbfcfjgcmideeaaGreatDoor
/-! Sums. -/
def rs (N : Nat) (h : Nat → Nat) : Nat := ((List.range N).map h).sum
theorem rs_zero (h : Nat → Nat) : rs 0 h = 0 := rfl
theorem rs_succ (N : Nat) (h : Nat → Nat) : rs (N + 1) h = rs N h + h N := by simp [rs, List.range_succ]
theorem rs_add (N : Nat) (a b : Nat → Nat) : rs N (fun i => a i + b i) = rs N a + rs N b := by
  induction N with
  | zero => rfl
  | succ N ih => simp only [rs_succ, ih]; omega
theorem rs_le (N : Nat) (a b : Nat → Nat) (h : ∀ i, i < N → a i ≤ b i) : rs N a ≤ rs N b := by
  induction N with
  | zero => exact Nat.le_refl _
  | succ N ih => simp only [rs_succ]; have := ih (fun i hi => h i (by omega)); have := h N (by omega); omega
theorem rs_congr (N : Nat) (a b : Nat → Nat) (h : ∀ i, i < N → a i = b i) : rs N a = rs N b :=
  Nat.le_antisymm (rs_le N a b fun i hi => Nat.le_of_eq (h i hi)) (rs_le N b a fun i hi => Nat.le_of_eq (h i hi).symm)
theorem rs_none (N : Nat) (h : Nat → Nat) (h0 : ∀ i, i < N → h i = 0) : rs N h = 0 := by
  induction N with
  | zero => rfl
  | succ N ih => rw [rs_succ, ih (fun i hi => h0 i (by omega)), h0 N (by omega)]
theorem rs_single (N : Nat) (x : Int) (g : Nat → Nat) (h0 : 0 ≤ x) (h1 : x < N) : rs N (fun i => (if x = (i : Int) then 1 else 0) * g i) = g x.toNat := by
  induction N with
  | zero => omega
  | succ N ih =>
    rw [rs_succ]
    by_cases hx : x = (N : Int)
    · rw [rs_none N _ (fun i hi => by rw [if_neg (by omega), Nat.zero_mul]), if_pos hx, hx]; simp
    · rw [ih (by omega), if_neg hx]; simp
theorem sum_count (N : Nat) (g : Int → Nat) : ∀ (l : List Int), (∀ x ∈ l, 0 ≤ x ∧ x < N) → (l.map g).sum = rs N fun i => l.count (i : Int) * g (i : Int)
  | [], _ => by rw [rs_none _ _ fun i _ => by simp]; rfl
  | x :: l, h => by
    have ih := sum_count N g l fun y hy => h y (List.mem_cons_of_mem _ hy)
    have hx := h x List.mem_cons_self
    rw [List.map_cons, List.sum_cons, ih]
    have h1 := rs_single N x (fun i => g (i : Int)) hx.1 hx.2
    have h2 : rs N (fun i => (x :: l).count (i : Int) * g (i : Int)) = rs N fun i => (if x = (i : Int) then 1 else 0) * g (i : Int) + l.count (i : Int) * g (i : Int) := rs_congr _ _ _ fun i _ => by
      rw [List.count_cons, ← Nat.add_mul]
      congr 1
      by_cases hxi : x = (i : Int)
      · rw [if_pos hxi, if_pos (by simpa using hxi)]; omega
      · rw [if_neg hxi, if_neg (by simpa using hxi)]; omega
    rw [h2, rs_add, h1, show ((x.toNat : Nat) : Int) = x by omega]
theorem sum_le_of_once (N : Nat) (g : Int → Nat) (l : List Int) (h : ∀ x ∈ l, 0 ≤ x ∧ x < N) (h1 : ∀ x, g x ≠ 0 → l.count x ≤ 1) : (l.map g).sum ≤ rs N fun i => g (i : Int) := by
  rw [sum_count N g l h]
  refine rs_le _ _ _ fun i _ => ?_
  by_cases hg : g (i : Int) = 0
  · rw [hg]; simp
  · have := Nat.mul_le_mul_right (g (i : Int)) (h1 _ hg)
    omega
theorem sum_flatMap {α β : Type} (F : α → List β) (g : β → Nat) : ∀ (l : List α), ((l.flatMap F).map g).sum = (l.map fun x => ((F x).map g).sum).sum
  | [] => rfl
  | x :: l => by rw [List.flatMap_cons, List.map_append, List.sum_append, sum_flatMap F g l, List.map_cons, List.sum_cons]
theorem sum_le {α : Type} (a b : α → Nat) : ∀ (l : List α), (∀ x ∈ l, a x ≤ b x) → (l.map a).sum ≤ (l.map b).sum
  | [], _ => Nat.le_refl _
  | x :: l, h => by
    have h1 := sum_le a b l fun y hy => h y (List.mem_cons_of_mem _ hy)
    have h2 := h x List.mem_cons_self
    simp only [List.map_cons, List.sum_cons]
    omega
theorem sum_add {α : Type} (a b : α → Nat) : ∀ (l : List α), (l.map fun x => a x + b x).sum = (l.map a).sum + (l.map b).sum
  | [] => rfl
  | x :: l => by simp only [List.map_cons, List.sum_cons, sum_add a b l]; omega
theorem sum_eq {α : Type} (a b : α → Nat) (l : List α) (h : ∀ x ∈ l, a x = b x) : (l.map a).sum = (l.map b).sum :=
  Nat.le_antisymm (sum_le a b l fun x hx => Nat.le_of_eq (h x hx)) (sum_le b a l fun x hx => Nat.le_of_eq (h x hx).symm)
/-! Who is come to. -/
def visP (t : TTree) (u g deepest : Int) : Nat → Int → Int → List Int
  | 0, _, _ => []
  | f + 1, n, d => n :: (if (t.at n).kind = 2 then (kidsOf u g deepest (t.at n) d).flatMap fun e => visP t u g deepest f e.node (d + 1) else [])
theorem kids_sub (u g deepest : Int) (x : TNode) (d : Int) : (kidsOf u g deepest x d = x.list) ∨ kidsOf u g deepest x d = [] := by
  unfold kidsOf
  split
  · split
    · exact .inl rfl
    · exact .inr rfl
  · exact .inr rfl
theorem kids_mem {u g deepest : Int} {x : TNode} {d : Int} {e : TEnt} (h : e ∈ kidsOf u g deepest x d) : e ∈ x.list := by
  rcases kids_sub u g deepest x d with h1 | h1
  · rwa [h1] at h
  · rw [h1] at h; cases h
theorem filter_flatMap {α β : Type} (F : α → List β) (p : β → Bool) : ∀ (l : List α), (l.flatMap F).filter p = l.flatMap fun x => (F x).filter p
  | [] => rfl
  | x :: l => by rw [List.flatMap_cons, List.filter_append, filter_flatMap F p l, List.flatMap_cons]
theorem map_flatMap' {α β γ : Type} (F : α → List β) (p : β → γ) : ∀ (l : List α), (l.flatMap F).map p = l.flatMap fun x => (F x).map p
  | [] => rfl
  | x :: l => by rw [List.flatMap_cons, List.map_append, map_flatMap' F p l, List.flatMap_cons]
theorem flatMap_eq {α β : Type} (F G : α → List β) : ∀ (l : List α), (∀ x ∈ l, F x = G x) → l.flatMap F = l.flatMap G
  | [], _ => rfl
  | x :: l, h => by rw [List.flatMap_cons, List.flatMap_cons, h x List.mem_cons_self, flatMap_eq F G l fun y hy => h y (List.mem_cons_of_mem _ hy)]
theorem walk_vis (t : TTree) (u g deepest : Int) : ∀ (f : Nat) (n : Int) (p : ByteArray) (d : Int), (((walkP t u g deepest f n p d).1.filter fun s => !s.after).map fun s => s.node) = visP t u g deepest f n d
  | 0, _, _, _ => rfl
  | f + 1, n, p, d => by
    unfold walkP visP
    split
    · simp only [List.filter_append, List.filter_cons, Bool.not_false, if_true, List.map_cons, List.filter_nil, Bool.not_true, Bool.false_eq_true, if_false, List.append_nil]
      rw [filter_flatMap, map_flatMap']
      congr 1
      exact flatMap_eq _ _ _ fun e _ => walk_vis t u g deepest f _ _ _
    · rfl
theorem walk_len (t : TTree) (u g deepest : Int) : ∀ (f : Nat) (n : Int) (p : ByteArray) (d : Int), (walkP t u g deepest f n p d).1.length ≤ 2 * (visP t u g deepest f n d).length ∧ (walkP t u g deepest f n p d).2.length ≤ (visP t u g deepest f n d).length
  | 0, _, _, _ => by simp [walkP]
  | f + 1, n, p, d => by
    unfold walkP visP
    split
    · have h1 := sum_le (fun e : TEnt => (walkP t u g deepest f e.node (joinB p e.name) (d + 1)).1.length) (fun e => 2 * (visP t u g deepest f e.node (d + 1)).length) (kidsOf u g deepest (t.at n) d) fun e _ => (walk_len t u g deepest f e.node (joinB p e.name) (d + 1)).1
      have h2 := sum_le (fun e : TEnt => (walkP t u g deepest f e.node (joinB p e.name) (d + 1)).2.length) (fun e => (visP t u g deepest f e.node (d + 1)).length) (kidsOf u g deepest (t.at n) d) fun e _ => (walk_len t u g deepest f e.node (joinB p e.name) (d + 1)).2
      have h3 : ∀ l : List TEnt, (l.map fun e => 2 * (visP t u g deepest f e.node (d + 1)).length).sum = 2 * (l.map fun e => (visP t u g deepest f e.node (d + 1)).length).sum := fun l => by
        induction l with
        | nil => rfl
        | cons x l ih => simp only [List.map_cons, List.sum_cons, ih]; omega
      have h4 : (shutOf u g deepest (t.at n) p d).length ≤ 1 := by
        unfold shutOf
        split
        · split <;> simp
        · simp
      rw [h3] at h1
      simp only [List.length_append, List.length_cons, List.length_flatMap, List.length_nil]
      omega
    · simp
theorem vis_range {t : TTree} (u g deepest : Int) : ∀ (f : Nat) (n : Int) (k : Nat) (d : Int), Fuel t f n k → ∀ x ∈ visP t u g deepest f n d, 0 ≤ x ∧ x < t.nodes.length
  | 0, _, _, _, hf, _, _ => hf.elim
  | f + 1, n, k, d, ⟨h0, h1, _, h3⟩, x, hx => by
    unfold visP at hx
    rcases List.mem_cons.1 hx with rfl | hx
    · exact ⟨h0, h1⟩
    · split at hx
      · rename_i hk
        obtain ⟨e, he, hxe⟩ := List.mem_flatMap.1 hx
        exact vis_range u g deepest f e.node _ _ (h3 hk e (kids_mem he)).2 x hxe
      · cases hx
/-- How often j stands in directory x's list. -/
def cK (t : TTree) (j x : Int) : Nat := if (t.at x).kind = 2 then (t.at x).list.countP (fun e => e.node == j) else 0
def cL (t : TTree) (x : Int) : Nat := if (t.at x).kind = 2 then (t.at x).list.length else 0
theorem sum_ind (j : Int) : ∀ (l : List TEnt), (l.map fun e => if e.node = j then 1 else 0).sum = l.countP fun e => e.node == j
  | [] => rfl
  | e :: l => by
    rw [List.map_cons, List.sum_cons, sum_ind j l, List.countP_cons]
    by_cases h : e.node = j
    · rw [if_pos h, if_pos (by simpa using h)]; omega
    · rw [if_neg h, if_neg (by simpa using h)]; omega
theorem vis_count {t : TTree} (u g deepest j : Int) : ∀ (f : Nat) (n : Int) (d : Int), (visP t u g deepest f n d).count j ≤ (if n = j then 1 else 0) + ((visP t u g deepest f n d).map (cK t j)).sum
  | 0, _, _ => by simp [visP]
  | f + 1, n, d => by
    have hc : ∀ l : List Int, (n :: l).count j = (if n = j then 1 else 0) + l.count j := fun l => by
      rw [List.count_cons]
      by_cases h : n = j
      · rw [if_pos h, if_pos (by simpa using h)]; omega
      · rw [if_neg h, if_neg (by simpa using h)]; omega
    unfold visP
    rw [hc, List.map_cons, List.sum_cons]
    by_cases hk : (t.at n).kind = 2
    · simp only [if_pos hk]
      have h1 := sum_le (fun e : TEnt => (visP t u g deepest f e.node (d + 1)).count j) (fun e => (if e.node = j then 1 else 0) + ((visP t u g deepest f e.node (d + 1)).map (cK t j)).sum) (kidsOf u g deepest (t.at n) d) fun e _ => vis_count u g deepest j f e.node (d + 1)
      rw [sum_add, sum_ind] at h1
      rw [sum_flatMap, List.count_flatMap]
      have h2 : (kidsOf u g deepest (t.at n) d).countP (fun e => e.node == j) ≤ cK t j n := by
        unfold cK
        rw [if_pos hk]
        rcases kids_sub u g deepest (t.at n) d with h3 | h3
        · rw [h3]; exact Nat.le_refl _
        · rw [h3]; simp
      have h4 : (List.map (List.count j ∘ fun e => visP t u g deepest f e.node (d + 1)) (kidsOf u g deepest (t.at n) d)).sum = (List.map (fun e : TEnt => (visP t u g deepest f e.node (d + 1)).count j) (kidsOf u g deepest (t.at n) d)).sum := rfl
      omega
    · simp [hk]
theorem vis_length {t : TTree} (u g deepest : Int) : ∀ (f : Nat) (n : Int) (d : Int), (visP t u g deepest f n d).length ≤ 1 + ((visP t u g deepest f n d).map (cL t)).sum
  | 0, _, _ => by simp [visP]
  | f + 1, n, d => by
    unfold visP
    rw [List.map_cons, List.sum_cons, List.length_cons]
    by_cases hk : (t.at n).kind = 2
    · simp only [if_pos hk]
      have h1 := sum_le (fun e : TEnt => (visP t u g deepest f e.node (d + 1)).length) (fun e => 1 + ((visP t u g deepest f e.node (d + 1)).map (cL t)).sum) (kidsOf u g deepest (t.at n) d) fun e _ => vis_length u g deepest f e.node (d + 1)
      rw [sum_add] at h1
      rw [sum_flatMap, List.length_flatMap]
      have h2 : ((kidsOf u g deepest (t.at n) d).map fun _ => 1).sum ≤ cL t n := by
        unfold cL
        rw [if_pos hk]
        have h5 : ∀ l : List TEnt, (l.map fun _ => 1).sum = l.length := fun l => by
          induction l with
          | nil => rfl
          | cons x l ih => rw [List.map_cons, List.sum_cons, ih, List.length_cons]; omega
        rw [h5]
        rcases kids_sub u g deepest (t.at n) d with h3 | h3
        · rw [h3]; exact Nat.le_refl _
        · rw [h3]; simp
      omega
    · simp [hk]
end Go.Proofs.YtbfcfjgcmideeaaGreatDoor
namespace Go.Proofs.YtbfcfjgcmideeaaGreatDoor
theorem take_rs (l : List TNode) (F : TNode → Nat) : ∀ N, N ≤ l.length → ((l.take N).map F).sum = rs N fun i => F (l.getD i zNode)
  | 0, _ => rfl
  | N + 1, h => by
    have hx : l[N]? = some (l[N]'(by omega)) := by simp
    rw [rs_succ, ← take_rs l F N (by omega), List.take_add_one, hx, List.map_append, List.sum_append, List.getD_eq_getElem?_getD, hx]
    simp
theorem no_list {x : TNode} (h : x.ok = true) (hk : x.kind ≠ 2) : x.list = [] := by
  unfold TNode.ok TNode.byKind at h
  rw [Bool.and_eq_true] at h
  have h2 := h.2
  rw [← List.length_eq_zero_iff]
  split at h2
  · rw [TNode.k0, decide_eq_true_iff] at h2; exact h2.2.2.2.2.2.2.2.1
  · split at h2
    · rw [TNode.k1, decide_eq_true_iff] at h2; exact h2.2.1
    · rw [TNode.k3, decide_eq_true_iff] at h2; exact h2.2.2.2.2.2.1
theorem count_refs {j : Int} (hj : 0 ≤ j) : ∀ (l : List TEnt), (∀ e ∈ l, 0 ≤ e.node) → l.countP (fun e => e.node == j) = (refsOf l).count j.toNat
  | [], _ => rfl
  | e :: l, h => by
    have ih := count_refs hj l fun x hx => h x (List.mem_cons_of_mem _ hx)
    have he := h e List.mem_cons_self
    unfold refsOf at ih ⊢
    rw [List.countP_cons, List.map_cons, List.count_cons, ih]
    by_cases hx : e.node = j
    · rw [if_pos (by simpa using hx), if_pos (by rw [hx]; simp)]
    · rw [if_neg (by simpa using hx), if_neg (by simp only [beq_iff_eq]; omega)]
theorem TreeOK.ents {t : TTree} (h : TreeOK t) {i : Nat} {x : TNode} (hx : t.nodes[i]? = some x) : ∀ e ∈ x.list, 2 ≤ e.node := fun e he => by
  obtain ⟨k, hk⟩ := List.getElem?_of_mem he
  exact (h.lists i x hx k e (List.getElem?_eq_some_iff.1 hk).1 hk).2.2.1
theorem TreeOK.times_rs {t : TTree} (h : TreeOK t) {j : Int} (hj : 0 ≤ j) : rs t.nodes.length (fun i => cK t j (i : Int)) = t.times j.toNat := by
  unfold TTree.times TTree.refs
  rw [List.count_flatMap]
  have h1 := take_rs t.nodes (List.count j.toNat ∘ fun n => refsOf n.list) t.nodes.length (Nat.le_refl _)
  rw [h1]
  refine rs_congr _ _ _ fun i hi => ?_
  obtain ⟨x, hx⟩ : ∃ x, t.nodes[i]? = some x := ⟨t.nodes[i]'hi, by simp⟩
  have hat : t.at (i : Int) = x := at_eq (by simpa using hx)
  have hgd : t.nodes.getD i zNode = x := by rw [List.getD_eq_getElem?_getD, hx]; rfl
  unfold cK
  rw [hat, hgd]
  by_cases hk : x.kind = 2
  · rw [if_pos hk]
    exact count_refs hj _ fun e he => by have := h.ents hx e he; omega
  · rw [if_neg hk]
    have := no_list (h.each x (List.mem_of_getElem? hx)) hk
    simp [this, refsOf]
theorem TreeOK.names_rs {t : TTree} (h : TreeOK t) : rs t.nodes.length (fun i => cL t (i : Int)) ≤ 2048 := by
  have h1 := take_rs t.nodes (fun n => n.list.length) t.nodes.length (Nat.le_refl _)
  have h2 := h.names
  unfold TTree.names at h2
  rw [h1] at h2
  refine Nat.le_trans (rs_le _ _ _ fun i hi => ?_) h2
  unfold cL
  split
  · unfold TTree.at; simp
  · omega
theorem TreeOK.cK_le {t : TTree} (h : TreeOK t) {j : Int} (h1 : 1 < j) (h2 : j < t.nodes.length) (hk : (t.at j).kind = 2) {y : Int} (hy0 : 0 ≤ y) (hy : y < t.nodes.length) : cK t j y ≤ 1 := by
  have h3 := h.times_rs (j := j) (by omega)
  obtain ⟨x, hx⟩ : ∃ x, t.nodes[j.toNat]? = some x := ⟨t.nodes[j.toNat]'(by omega), by simp⟩
  have h4 := ((h.link _ _ hx).1 (by rw [← at_eq hx]; exact hk)).2.1 (by omega)
  rw [h4] at h3
  have h5 : ∀ N : Nat, y < (N : Int) → cK t j y ≤ rs N fun i => cK t j (i : Int) := fun N => by
    induction N with
    | zero => intro h; omega
    | succ N ih =>
      intro hN
      rw [rs_succ]
      by_cases he : y = (N : Int)
      · rw [he]; omega
      · have := ih (by omega); omega
  have := h5 _ hy
  omega
theorem cK_parent {t : TTree} (h : TreeOK t) {x y : Int} (hk : (t.at x).kind = 2) (hy : DirAt t y) (hc : cK t x y ≠ 0) : y = (t.at x).parent ∧ 2 ≤ x ∧ ∃ e ∈ (t.at y).list, e.node = x := by
  unfold cK at hc
  rw [if_pos hy.2.2] at hc
  obtain ⟨e, he, hx⟩ := List.countP_pos_iff.1 (Nat.pos_of_ne_zero hc)
  have hx : e.node = x := by simpa using hx
  have := h.kid hy he
  subst hx
  exact ⟨(this.2.2.2.2 hk).symm, this.2.1, e, he, rfl⟩
theorem dirAt_of {t : TTree} (h : TreeOK t) {y : Int} (h0 : 0 ≤ y) (h1 : y < t.nodes.length) (hk : (t.at y).kind = 2) : DirAt t y := by
  refine ⟨?_, h1, hk⟩
  by_cases hz : y = 0
  · subst hz; rw [h.head.zero] at hk; omega
  · omega
/-- Of one summand alone. -/
theorem sum_one (t : TTree) (x p : Int) : ∀ (l : List Int), (∀ y ∈ l, y ≠ p → cK t x y = 0) → (l.map (cK t x)).sum = l.count p * cK t x p
  | [], _ => by simp
  | y :: l, h => by
    rw [List.map_cons, List.sum_cons, sum_one t x p l fun z hz => h z (List.mem_cons_of_mem _ hz), List.count_cons]
    by_cases hy : y = p
    · rw [if_pos (by simpa using hy), hy, Nat.add_mul]; omega
    · rw [if_neg (by simpa using hy), h y List.mem_cons_self hy, Nat.zero_add, Nat.add_zero]
theorem vis_once {t : TTree} (h : TreeOK t) (u g deepest : Int) (f : Nat) (n : Int) (k : Nat) (d : Int) (hf : Fuel t f n k) : ∀ (m : Nat) (x : Int), DirAt t x → deepN t 32 x = m →
    (visP t u g deepest f n d).count x ≤ 1 ∧ (m < deepN t 32 n → (visP t u g deepest f n d).count x = 0) := by
  have hr := vis_range u g deepest f n k d hf
  intro m
  induction m with
  | zero =>
    intro x hx hm
    have h1 : x = 1 := by
      have : upB t 32 x = true := h.up hx.1 hx.2.1 hx.2.2
      rw [deepN] at hm
      split at hm
      · assumption
      · omega
    have hc := vis_count (t := t) u g deepest x f n d
    have hz : ((visP t u g deepest f n d).map (cK t x)).sum = 0 := by
      rw [sum_one t x 1 _ fun y hy _ => ?_]
      · by_cases h0 : cK t x 1 = 0
        · rw [h0]; omega
        · have := cK_parent h hx.2.2 (dirAt_root h) h0; omega
      · by_cases hk : (t.at y).kind = 2
        · by_cases h0 : cK t x y = 0
          · exact h0
          · have := cK_parent h hx.2.2 (dirAt_of h (hr y hy).1 (hr y hy).2 hk) h0; omega
        · unfold cK; rw [if_neg hk]
    rw [hz] at hc
    by_cases hnx : n = x
    · rw [if_pos hnx] at hc
      exact ⟨by omega, fun hl => by rw [hnx, h1, deepN_one] at hl; omega⟩
    · rw [if_neg hnx] at hc
      exact ⟨by omega, fun _ => by omega⟩
  | succ m ih =>
    intro x hx hm
    have h1 : x ≠ 1 := fun e => by rw [e, deepN_one] at hm; omega
    have hp := dirAt_parent h hx
    obtain ⟨i, y, e, hi, he, hex, hpi⟩ := h.listing (by have := hx.1; omega) hx.2.1 hx.2.2
    have hpd : deepN t 32 (t.at x).parent = m := by
      have hat : t.at (t.at x).parent = y := by rw [hpi]; exact at_eq (by simpa using hi)
      have := (h.kid_deep hp (e := e) (by rw [hat]; exact he) (by rw [hex]; exact hx.2.2)).1
      rw [hex] at this
      omega
    obtain ⟨ih1, ih2⟩ := ih _ hp hpd
    have hc := vis_count (t := t) u g deepest x f n d
    rw [sum_one t x (t.at x).parent _ fun y hy hne => ?_] at hc
    · have hc1 := h.cK_le (by have := hx.1; omega) hx.2.1 hx.2.2 (by have := hp.1; omega) hp.2.1
      have hmul : (visP t u g deepest f n d).count (t.at x).parent * cK t x (t.at x).parent ≤ (visP t u g deepest f n d).count (t.at x).parent := by
        have := Nat.mul_le_mul_left ((visP t u g deepest f n d).count (t.at x).parent) hc1
        omega
      by_cases hnx : n = x
      · rw [if_pos hnx] at hc
        have := ih2 (by rw [hnx]; omega)
        exact ⟨by omega, fun hl => by rw [hnx] at hl; omega⟩
      · rw [if_neg hnx] at hc
        exact ⟨by omega, fun hl => by have := ih2 (by omega); omega⟩
    · by_cases hk : (t.at y).kind = 2
      · by_cases h0 : cK t x y = 0
        · exact h0
        · exact absurd (cK_parent h hx.2.2 (dirAt_of h (hr y hy).1 (hr y hy).2 hk) h0).1 hne
      · unfold cK; rw [if_neg hk]
theorem vis_len {t : TTree} (h : TreeOK t) (u g deepest : Int) (f : Nat) (n : Int) (k : Nat) (d : Int) (hf : Fuel t f n k) : (visP t u g deepest f n d).length ≤ 2049 := by
  by_cases hk : (t.at n).kind = 2
  · have h1 := vis_length (t := t) u g deepest f n d
    have hr := vis_range u g deepest f n k d hf
    have h2 := sum_le_of_once t.nodes.length (cL t) (visP t u g deepest f n d) hr fun x hx => ?_
    · have := h.names_rs; omega
    · have hkx : (t.at x).kind = 2 := by
        unfold cL at hx
        split at hx
        · assumption
        · exact absurd rfl hx
      by_cases hm : x ∈ visP t u g deepest f n d
      · exact (vis_once h u g deepest f n k d hf _ x (dirAt_of h (hr x hm).1 (hr x hm).2 hkx) rfl).1
      · rw [List.count_eq_zero.2 hm]; omega
  · cases f with
    | zero => exact hf.elim
    | succ f => unfold visP; rw [if_neg hk]; simp
theorem walk_lens {t : TTree} (h : TreeOK t) (u g deepest : Int) (f : Nat) (n : Int) (k : Nat) (p : ByteArray) (d : Int) (hf : Fuel t f n k) : (walkP t u g deepest f n p d).1.length ≤ 5000 ∧ (walkP t u g deepest f n p d).2.length ≤ 5000 := by
  have h1 := walk_len t u g deepest f n p d
  have h2 := vis_len h u g deepest f n k d hf
  omega
end Go.Proofs.YtbfcfjgcmideeaaGreatDoor
