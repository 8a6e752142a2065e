/- A walk's steps nest, no two paths are alike: the plain part. -/
/- The law that steps nest: what it keeps in memory; what is known of each step. -/
import Derived.Test.YtdceechakocgfaaDoorW1
import Derived.Test.YtdceechakocgfaaDoorM1
import Derived.Test.YtdceechakocgfaaDoorWalkCells
namespace Go.Proofs.YtdceechakocgfaaDoor
noncomputable def nestNew (most : Int) (st : List TStep × List ByteArray) (s : TStep) : Bool := @decide (s.depth = (st.1.length : Nat) ∧ s.depth ≤ most ∧ s.path ∉ st.2) (Classical.propDecidable _)
theorem nestNew_iff (most : Int) (st : List TStep × List ByteArray) (s : TStep) : nestNew most st s = true ↔ s.depth = (st.1.length : Nat) ∧ s.depth ≤ most ∧ s.path ∉ st.2 := by
  unfold nestNew; exact @decide_eq_true_iff _ (Classical.propDecidable _)
/-- What the law keeps: the directories that are open, the paths that were seen. -/
noncomputable def nestStep (t : TTree) (most : Int) (st : List TStep × List ByteArray) (s : TStep) : Option (List TStep × List ByteArray) :=
  if s.after = true then
    match st.1.getLast? with
    | none => none
    | some o => if (t.at s.node).kind = 2 ∧ o.path = s.path ∧ o.node = s.node ∧ o.depth = s.depth then some (st.1.dropLast, st.2) else none
  else if nestNew most st s then some (if (t.at s.node).kind = 2 then st.1 ++ [s] else st.1, st.2 ++ [s.path])
  else none
noncomputable def nestRun (t : TTree) (most : Int) : List TStep → List TStep × List ByteArray → Option (List TStep × List ByteArray)
  | [], st => some st
  | s :: l, st => (nestStep t most st s).bind (nestRun t most l)
theorem nestRun_append (t : TTree) (most : Int) : ∀ (a b : List TStep) (st : List TStep × List ByteArray), nestRun t most (a ++ b) st = (nestRun t most a st).bind (nestRun t most b)
  | [], b, st => rfl
  | s :: a, b, st => by
    simp only [List.cons_append, nestRun]
    cases nestStep t most st s with
    | none => rfl
    | some st' => exact nestRun_append t most a b st'
/-- The paths that a walk comes to. -/
def pathsP (t : TTree) (u g deepest : Int) (f : Nat) (n : Int) (p : ByteArray) (d : Int) : List ByteArray := ((walkP t u g deepest f n p d).1.filter fun s => !s.after).map fun s => s.path
theorem filter_flat {α β : Type} (F : α → List β) (p : β → Bool) : ∀ (l : List α), (l.flatMap F).filter p = l.flatMap fun x => (F x).filter p
  | [] => rfl
  | x :: l => by rw [List.flatMap_cons, List.filter_append, filter_flat F p l, List.flatMap_cons]
theorem map_flat {α β γ : Type} (F : α → List β) (p : β → γ) : ∀ (l : List α), (l.flatMap F).map p = l.flatMap fun x => (F x).map p
  | [] => rfl
  | x :: l => by rw [List.flatMap_cons, List.map_append, map_flat F p l, List.flatMap_cons]
theorem pathsP_succ (t : TTree) (u g deepest : Int) (f : Nat) (n : Int) (p : ByteArray) (d : Int) :
    pathsP t u g deepest (f + 1) n p d = p :: (if (t.at n).kind = 2 then (kidsOf u g deepest (t.at n) d).flatMap fun e => pathsP t u g deepest f e.node (joinB p e.name) (d + 1) else []) := by
  unfold pathsP
  conv => lhs; unfold walkP
  split
  · simp only [List.filter_append, List.filter_cons, Bool.not_false, if_true, List.map_cons, List.filter_nil, Bool.not_true, Bool.false_eq_true, if_false, List.append_nil]
    rw [filter_flat, map_flat]
  · rfl
/-- A path goes on from another one. -/
def Und (p q : List UInt8) : Prop := ∃ r, q = p ++ r ∧ (r = [] ∨ r.head? = some 47)
def baseOf (p : List UInt8) : List UInt8 := if p = [] ∨ slashEnd p = true then p else p ++ [47]
theorem joinS_base (p n : List UInt8) : joinS p n = baseOf p ++ n := by
  unfold joinS baseOf
  split
  · rfl
  · simp
def IsName (n : List UInt8) : Prop := n ≠ [] ∧ (47 : UInt8) ∉ n
theorem cut_name : ∀ (a b r s : List UInt8), (47 : UInt8) ∉ a → 47 ∉ b → (r = [] ∨ r.head? = some 47) → (s = [] ∨ s.head? = some 47) → a ++ r = b ++ s → a = b
  | [], [], _, _, _, _, _, _, _ => rfl
  | [], y :: b, r, s, _, hb, hr, _, h => by
    rcases hr with rfl | hr
    · cases h
    · rw [List.nil_append] at h
      rw [h] at hr
      simp only [List.cons_append, List.head?_cons, Option.some.injEq] at hr
      exact absurd (List.mem_cons.2 (.inl hr.symm)) hb
  | x :: a, [], r, s, ha, _, _, hs, h => by
    rcases hs with rfl | hs
    · cases h
    · rw [List.nil_append] at h
      rw [← h] at hs
      simp only [List.cons_append, List.head?_cons, Option.some.injEq] at hs
      exact absurd (List.mem_cons.2 (.inl hs.symm)) ha
  | x :: a, y :: b, r, s, ha, hb, hr, hs, h => by
    simp only [List.cons_append, List.cons.injEq] at h
    rw [h.1, cut_name a b r s (fun hm => ha (List.mem_cons_of_mem _ hm)) (fun hm => hb (List.mem_cons_of_mem _ hm)) hr hs h.2]
theorem und_same {p a b q : List UInt8} (ha : IsName a) (hb : IsName b) (h1 : Und (joinS p a) q) (h2 : Und (joinS p b) q) : a = b := by
  obtain ⟨r, e1, hr⟩ := h1
  obtain ⟨s, e2, hs⟩ := h2
  rw [joinS_base, List.append_assoc] at e1 e2
  exact cut_name a b r s ha.2 hb.2 hr hs (List.append_cancel_left (e1.symm.trans e2))
theorem und_not {p a : List UInt8} (ha : IsName a) : ¬ Und (joinS p a) p := by
  rintro ⟨r, h, -⟩
  have h1 := congrArg List.length h
  have h2 : 0 < a.length := List.length_pos_iff.2 ha.1
  have h3 : p.length ≤ (baseOf p).length := by
    unfold baseOf
    split <;> simp
  rw [joinS_base, List.length_append, List.length_append] at h1
  omega
theorem slashEnd_put (r : List UInt8) (b : UInt8) : slashEnd (r ++ [b]) = (b == 47) := by
  unfold slashEnd Lib.hasSuffix
  rw [Bool.eq_iff_iff]
  simp
  exact eq_comm
theorem slashEnd_name {n : List UInt8} (h : IsName n) (x : List UInt8) : slashEnd (x ++ n) = false := by
  obtain ⟨r, b, hb⟩ : ∃ r b, n = r ++ [b] := by
    rcases List.eq_nil_or_concat n with e | ⟨r, b, e⟩
    · exact absurd e h.1
    · exact ⟨r, b, by rw [e, List.concat_eq_append]⟩
  rw [hb, ← List.append_assoc, slashEnd_put]
  refine beq_eq_false_iff_ne.2 fun e => h.2 ?_
  rw [hb, e]; simp
theorem und_kid {p a q : List UInt8} (hp : p ≠ []) (hs : slashEnd p = false) (h : Und (joinS p a) q) : Und p q := by
  obtain ⟨r, e, -⟩ := h
  refine ⟨47 :: (a ++ r), ?_, .inr rfl⟩
  rw [e, joinS_base]
  unfold baseOf
  rw [if_neg (by rw [hs]; simpa using hp)]
  simp
theorem joinB_list (p n : ByteArray) : (joinB p n).data.toList = joinS p.data.toList n.data.toList := by simp [joinB]
theorem name_is {s : ByteArray} (h : nameOK s = true) : IsName s.data.toList := by
  unfold nameOK at h
  have h := of_decide_eq_true h
  rw [ByteArray.toList_eq] at h
  refine ⟨h.1, fun hm => ?_⟩
  have hb := h.2.2.2.2
  unfold hasBad at hb
  rw [List.any_eq_false] at hb
  have := hb 47 hm
  simp at this
theorem joinS_good {p n : List UInt8} (h : IsName n) : joinS p n ≠ [] ∧ slashEnd (joinS p n) = false := by
  rw [joinS_base]
  exact ⟨by simp [h.1], slashEnd_name h _⟩
theorem paths_und {t : TTree} (ht : TreeOK t) (u g deepest : Int) : ∀ (f : Nat) (n : Int) (p : ByteArray) (d : Int) (k : Nat), Fuel t f n k → p.data.toList ≠ [] → slashEnd p.data.toList = false → ∀ q ∈ pathsP t u g deepest f n p d, Und p.data.toList q.data.toList
  | 0, _, _, _, _, hf, _, _, _, _ => hf.elim
  | f + 1, n, p, d, k, ⟨h0, h1, _, h3⟩, hp, hs, q, hq => by
    rw [pathsP_succ] at hq
    rcases List.mem_cons.1 hq with rfl | hq
    · exact ⟨[], by simp, .inl rfl⟩
    · split at hq
      · rename_i hk
        obtain ⟨e, he, hqe⟩ := List.mem_flatMap.1 hq
        have hem : e ∈ (t.at n).list := by
          unfold kidsOf at he
          split at he
          · split at he
            · exact he
            · cases he
          · cases he
        have hn : DirAt t n := by
          refine ⟨?_, h1, hk⟩
          by_cases hz : n = 0
          · subst hz; rw [ht.head.zero] at hk; omega
          · omega
        have hnm := name_is (ht.kid hn hem).1
        have hg := joinS_good (p := p.data.toList) hnm
        have := paths_und ht u g deepest f e.node (joinB p e.name) (d + 1) _ (h3 hk e hem).2 (by rw [joinB_list]; exact hg.1) (by rw [joinB_list]; exact hg.2) q hqe
        rw [joinB_list] at this
        exact und_kid hp hs this
      · cases hq
/-- A list's names go up. -/
theorem names_up {t : TTree} {i : Nat} {l : List TEnt} (h : listTo t i l l.length) : ∀ (k j : Nat) (a b : TEnt), l[j]? = some a → l[j + 1 + k]? = some b → strLt a.name b.name = true
  | 0, j, a, b, ha, hb => by
    have := (h (j + 1) b (List.getElem?_eq_some_iff.1 hb).1 hb).2.1 a (by rw [if_neg (by omega)]; exact ha)
    exact this
  | k + 1, j, a, b, ha, hb => by
    obtain ⟨c, hc⟩ : ∃ c, l[j + 1 + k]? = some c := ⟨l[j + 1 + k]'(by have := (List.getElem?_eq_some_iff.1 hb).1; omega), by simp⟩
    have h1 := names_up h k j a c ha hc
    have h2 := (h (j + 1 + (k + 1)) b (List.getElem?_eq_some_iff.1 hb).1 hb).2.1 c (by rw [if_neg (by omega)]; exact hc)
    exact strLt_trans h1 h2
theorem names_apart {t : TTree} {i : Nat} {l : List TEnt} (h : listTo t i l l.length) : l.Pairwise fun a b => a.name ≠ b.name := by
  rw [List.pairwise_iff_getElem]
  intro x y hx hy hxy he
  have h1 := names_up h (y - x - 1) x l[x] l[y] (by simp) (by rw [show x + 1 + (y - x - 1) = y by omega]; simp)
  rw [he, strLt_irrefl] at h1
  cases h1
theorem kids_apart {t : TTree} (ht : TreeOK t) {n : Int} (hn : DirAt t n) (u g deepest d : Int) : (kidsOf u g deepest (t.at n) d).Pairwise fun a b => a.name ≠ b.name := by
  obtain ⟨x, hx⟩ : ∃ x, t.nodes[n.toNat]? = some x := ⟨t.nodes[n.toNat]'(by have := hn.1; have := hn.2.1; omega), by simp⟩
  unfold kidsOf
  split
  · split
    · rw [at_eq hx]; exact names_apart (ht.lists _ x hx)
    · exact .nil
  · exact .nil
theorem kids_in {u g deepest : Int} {x : TNode} {d : Int} {e : TEnt} (he : e ∈ kidsOf u g deepest x d) : e ∈ x.list ∧ d < deepest := by
  unfold kidsOf at he
  split at he
  · split at he
    · exact ⟨he, by assumption⟩
    · cases he
  · cases he
theorem nest_kids {t : TTree} (most : Int) (opn : List TStep) (F : TEnt → List TStep) (G : TEnt → List ByteArray) : ∀ (ks : List TEnt) (seen : List ByteArray),
    (∀ e ∈ ks, ∀ seen', (∀ q ∈ G e, q ∉ seen') → nestRun t most (F e) (opn, seen') = some (opn, seen' ++ G e)) →
    (∀ e ∈ ks, ∀ q ∈ G e, q ∉ seen) → (ks.Pairwise fun a b => ∀ q ∈ G b, q ∉ G a) → nestRun t most (ks.flatMap F) (opn, seen) = some (opn, seen ++ ks.flatMap G)
  | [], seen, _, _, _ => by simp [nestRun]
  | e :: ks, seen, h1, h2, h3 => by
    rw [List.flatMap_cons, List.flatMap_cons, nestRun_append, h1 e List.mem_cons_self seen (h2 e List.mem_cons_self), Option.bind_some]
    have h4 := List.pairwise_cons.1 h3
    rw [nest_kids most opn F G ks (seen ++ G e) (fun e' he' => h1 e' (List.mem_cons_of_mem _ he')) (fun e' he' q hq hm => ?_) h4.2, List.append_assoc]
    rcases List.mem_append.1 hm with hm | hm
    · exact h2 e' (List.mem_cons_of_mem _ he') q hq hm
    · exact h4.1 e' he' q hq hm
theorem nest_walk {t : TTree} (ht : TreeOK t) (u g deepest most : Int) (hm : deepest ≤ most) : ∀ (f : Nat) (n : Int) (p : ByteArray) (d : Int) (k : Nat) (opn : List TStep) (seen : List ByteArray), Fuel t f n k → d = (opn.length : Nat) → d ≤ most →
    (∀ q ∈ pathsP t u g deepest f n p d, q ∉ seen) → nestRun t most (walkP t u g deepest f n p d).1 (opn, seen) = some (opn, seen ++ pathsP t u g deepest f n p d)
  | 0, _, _, _, _, _, _, hf, _, _, _ => hf.elim
  | f + 1, n, p, d, k, opn, seen, ⟨h0, h1, _, h3⟩, hd, hdm, hq => by
    rw [pathsP_succ] at hq ⊢
    have hnew : nestNew most (opn, seen) ⟨p, n, d, false⟩ = true := (nestNew_iff _ _ _).2 ⟨hd, hdm, hq p List.mem_cons_self⟩
    by_cases hk : (t.at n).kind = 2
    · have hn : DirAt t n := by
        refine ⟨?_, h1, hk⟩
        by_cases hz : n = 0
        · subst hz; rw [ht.head.zero] at hk; omega
        · omega
      have hstep : nestStep t most (opn, seen) ⟨p, n, d, false⟩ = some (opn ++ [⟨p, n, d, false⟩], seen ++ [p]) := by
        unfold nestStep
        rw [if_neg (by simp), hnew, if_pos rfl]
        simp [hk]
      have hend : ∀ s2, nestStep t most (opn ++ [⟨p, n, d, false⟩], s2) ⟨p, n, d, true⟩ = some (opn, s2) := fun s2 => by
        unfold nestStep
        rw [if_pos rfl]
        simp [hk]
      rw [if_pos hk] at hq ⊢
      unfold walkP
      rw [if_pos hk]
      dsimp only
      rw [List.cons_append, nestRun, hstep, Option.bind_some, nestRun_append]
      have hkid : ∀ e ∈ kidsOf u g deepest (t.at n) d, IsName e.name.data.toList ∧ ∀ q ∈ pathsP t u g deepest f e.node (joinB p e.name) (d + 1), Und (joinS p.data.toList e.name.data.toList) q.data.toList := fun e he => by
        have hem := (kids_in he).1
        have hnm := name_is (ht.kid hn hem).1
        have hg := joinS_good (p := p.data.toList) hnm
        refine ⟨hnm, fun q hq => ?_⟩
        have := paths_und ht u g deepest f e.node (joinB p e.name) (d + 1) _ (h3 hk e hem).2 (by rw [joinB_list]; exact hg.1) (by rw [joinB_list]; exact hg.2) q hq
        rwa [joinB_list] at this
      rw [nest_kids (t := t) most (opn ++ [(⟨p, n, d, false⟩ : TStep)]) (fun e => (walkP t u g deepest f e.node (joinB p e.name) (d + 1)).1) (fun e => pathsP t u g deepest f e.node (joinB p e.name) (d + 1)) _ (seen ++ [p]) ?_ ?_ ?_, Option.bind_some]
      · simp only [nestRun, hend, Option.bind_some, List.append_assoc, List.cons_append, List.nil_append]
      · intro e he seen' hs'
        exact nest_walk ht u g deepest most hm f e.node (joinB p e.name) (d + 1) _ _ seen' (h3 hk e (kids_in he).1).2 (by rw [List.length_append, List.length_cons, List.length_nil]; omega) (by have := (kids_in he).2; omega) hs'
      · intro e he q hqe hmem
        rcases List.mem_append.1 hmem with hmem | hmem
        · exact hq q (List.mem_cons_of_mem _ (List.mem_flatMap.2 ⟨e, he, hqe⟩)) hmem
        · have hqp : q = p := by simpa using hmem
          obtain ⟨hnm, hu⟩ := hkid e he
          have := hu q hqe
          rw [hqp] at this
          exact und_not hnm this
      · have hap := kids_apart ht hn u g deepest d
        refine List.Pairwise.imp_of_mem (fun {a b} ha hb hab q hqb hqa => ?_) hap
        obtain ⟨na, ua⟩ := hkid a ha
        obtain ⟨nb, ub⟩ := hkid b hb
        have := und_same na nb (ua q hqa) (ub q hqb)
        refine hab ?_
        cases hx : a.name with
        | mk da =>
          cases hy : b.name with
          | mk db =>
            rw [hx, hy] at this
            congr 1
            exact Array.toList_inj.1 this
    · rw [if_neg hk] at hq ⊢
      unfold walkP
      rw [if_neg hk]
      simp only [nestRun]
      unfold nestStep
      rw [if_neg (by simp), hnew, if_pos rfl]
      simp [hk]
end Go.Proofs.YtdceechakocgfaaDoor
namespace Go.Proofs.YtdceechakocgfaaDoor
open Go.RowKit
theorem own_drop {w : World} {B : Nat} {e : TypeId} {z g n c : Nat} {rows : List (List Value)} {r : List Value} (h : Own w B e z (.slice (some ⟨g, 0, none⟩) n c) (rows ++ [r])) : Own w B e z (.slice (some ⟨g, 0, none⟩) rows.length c) rows := by
  refine ⟨⟨?_, ?_⟩, fun r' hr => h.each r' (List.mem_append_left _ hr)⟩
  · have : ∀ l : List (List Value), (∀ r ∈ l, r.length = z) → l.flatten.length = l.length * z := fun l => by
      induction l with
      | nil => intro _; simp
      | cons a l ih => intro ha; rw [List.flatten_cons, List.length_append, ih fun r hr => ha r (List.mem_cons_of_mem _ hr), ha a List.mem_cons_self, List.length_cons, Nat.succ_mul]; omega
    exact this rows fun r' hr => h.each r' (List.mem_append_left _ hr)
  · rcases h.own.2 with ⟨h1, h2⟩ | ⟨g', cap, cur, h1, h2, h3, h4, h5, h6, h7⟩
    · simp at h2
    · cases h1
      have hlen : rows.flatten.length = rows.length * z := by
        have : ∀ l : List (List Value), (∀ r ∈ l, r.length = z) → l.flatten.length = l.length * z := fun l => by
          induction l with
          | nil => intro _; simp
          | cons a l ih => intro ha; rw [List.flatten_cons, List.length_append, ih fun r hr => ha r (List.mem_cons_of_mem _ hr), ha a List.mem_cons_self, List.length_cons, Nat.succ_mul]; omega
        exact this rows fun r' hr => h.each r' (List.mem_append_left _ hr)
      refine .inr ⟨g, c, cur, rfl, h2, h3, ?_, h5, h6, ?_⟩
      · rw [List.length_append] at h4; omega
      · have hle : rows.length * z ≤ (rows ++ [r]).length * z := Nat.mul_le_mul_right z (by rw [List.length_append]; omega)
        have h8 : List.take (rows.length * z) (List.take ((rows ++ [r]).length * z) cur.toList) = List.take (rows.length * z) (rows ++ [r]).flatten := by rw [h7]
        rw [List.take_take, Nat.min_eq_left hle, List.flatten_append, List.take_append_of_le_length (Nat.le_of_eq hlen.symm), List.take_of_length_le (Nat.le_of_eq hlen)] at h8
        exact h8
theorem nestRun_take {t : TTree} {most : Int} : ∀ (l : List TStep) (st r : List TStep × List ByteArray), nestRun t most l st = some r → ∀ i x, l[i]? = some x → ∃ s1 s2, nestRun t most (l.take i) st = some s1 ∧ nestStep t most s1 x = some s2 ∧ nestRun t most (l.take (i + 1)) st = some s2
  | [], _, _, _, _, _, hx => by simp at hx
  | y :: l, st, r, h, i, x, hx => by
    simp only [nestRun] at h
    cases hs : nestStep t most st y with
    | none => rw [hs] at h; cases h
    | some st' =>
      rw [hs, Option.bind_some] at h
      cases i with
      | zero =>
        simp at hx
        subst hx
        exact ⟨st, st', rfl, hs, by simp [nestRun, hs]⟩
      | succ i =>
        obtain ⟨s1, s2, h1, h2, h3⟩ := nestRun_take l st' r h i x (by simpa using hx)
        exact ⟨s1, s2, by simp only [List.take_succ_cons, nestRun, hs, Option.bind_some]; exact h1, h2, by simp only [List.take_succ_cons, nestRun, hs, Option.bind_some]; exact h3⟩
theorem nestStep_len {t : TTree} {most : Int} {s1 s2 : List TStep × List ByteArray} {x : TStep} (h : nestStep t most s1 x = some s2) : s2.1.length ≤ s1.1.length + 1 ∧ s2.2.length ≤ s1.2.length + 1 := by
  unfold nestStep at h
  split at h
  · split at h
    · cases h
    · split at h
      · cases h; simp; omega
      · cases h
  · split at h
    · cases h
      dsimp only
      split <;> simp
    · cases h
theorem nestRun_len {t : TTree} {most : Int} : ∀ (l : List TStep) (st r : List TStep × List ByteArray), nestRun t most l st = some r → r.1.length ≤ st.1.length + l.length ∧ r.2.length ≤ st.2.length + l.length
  | [], _, _, h => by cases h; simp
  | y :: l, st, r, h => by
    simp only [nestRun] at h
    cases hs : nestStep t most st y with
    | none => rw [hs] at h; cases h
    | some st' =>
      rw [hs, Option.bind_some] at h
      have h1 := nestStep_len hs
      have h2 := nestRun_len l st' r h
      rw [List.length_cons]
      omega
theorem walk_range {t : TTree} (u g deepest : Int) : ∀ (f : Nat) (n : Int) (p : ByteArray) (d : Int) (k : Nat), Fuel t f n k → ∀ s ∈ (walkP t u g deepest f n p d).1, 0 ≤ s.node ∧ s.node < t.nodes.length
  | 0, _, _, _, _, hf, _, _ => hf.elim
  | f + 1, n, p, d, k, ⟨h0, h1, _, h3⟩, s, hs => by
    unfold walkP at hs
    split at hs
    · rename_i hk
      dsimp only at hs
      simp only [List.cons_append, List.mem_cons, List.mem_append, List.mem_flatMap, List.not_mem_nil, or_false] at hs
      rcases hs with rfl | ⟨e, he, hse⟩ | rfl
      · exact ⟨h0, h1⟩
      · exact walk_range u g deepest f e.node _ _ _ (h3 hk e (kids_in he).1).2 s hse
      · exact ⟨h0, h1⟩
    · simp only [List.mem_cons, List.not_mem_nil, or_false] at hs
      subst hs
      exact ⟨h0, h1⟩
theorem walk_first {t : TTree} {u g deepest : Int} {f : Nat} {n : Int} {p : ByteArray} {d : Int} {k : Nat} (hf : Fuel t f n k) : (walkP t u g deepest f n p d).1[0]? = some ⟨p, n, d, false⟩ := by
  cases f with
  | zero => exact hf.elim
  | succ f =>
    unfold walkP
    split <;> rfl
/-- All that is known of the steps of a walk in a tree that may be. -/
structure Nested (t : TTree) (deepest : Int) (p : ByteArray) (L : List TStep) : Prop where
  run : ∃ seen, nestRun t (max deepest 0) L ([], []) = some ([], seen)
  range : ∀ s ∈ L, 0 ≤ s.node ∧ s.node < t.nodes.length
  first : ∃ n, L[0]? = some ⟨p, n, 0, false⟩
  len : L.length ≤ 5000
theorem nested_of {t : TTree} (ht : TreeOK t) (u g deepest : Int) (n : Int) (p : ByteArray) (h0 : 0 ≤ n) (h1 : n < t.nodes.length) (hp : p.size ≤ 900000) : Nested t deepest p (walkP t u g deepest 40 n p 0).1 := by
  have hf := ht.fuel40 h0 h1 hp
  refine ⟨⟨_, nest_walk ht u g deepest (max deepest 0) (by omega) 40 n p 0 p.size [] [] hf rfl (by omega) fun _ _ h => by cases h⟩, walk_range u g deepest 40 n p 0 _ hf, ⟨n, walk_first hf⟩, (walk_lens ht u g deepest 40 n _ p 0 hf).1⟩
end Go.Proofs.YtdceechakocgfaaDoor
