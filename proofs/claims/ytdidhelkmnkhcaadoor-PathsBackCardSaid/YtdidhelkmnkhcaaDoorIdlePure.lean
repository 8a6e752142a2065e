/- PathsIdle, PathsBack, plain. -/
import Derived.Test.YtdidhelkmnkhcaaDoorFindPure
import Derived.Test.YtdidhelkmnkhcaaDoorBase
import Derived.Test.YtdidhelkmnkhcaaDoorDown
namespace Go.Proofs.YtdidhelkmnkhcaaDoor
theorem inGo_cons (t : TTree) (u g : Int) (follow : Bool) (f : Nat) (a : Int) (s : List UInt8) (rest : List (List UInt8)) (dirs : Bool) (hops : Nat) :
    inGo t u g follow (f + 1) a (s :: rest) dirs hops =
    if mayB (t.at a) u g 1 = false then (noPlace, 10)
    else if 64 < s.length then (noPlace, 13)
    else if s = [46] then inGo t u g follow f a rest dirs hops
    else if s = [46, 46] then inGo t u g follow f (t.at a).parent rest dirs hops
    else if tIn t a ⟨s.toArray⟩ = 0 then (if rest = [] then (⟨a, s, 0, dirs⟩, 0) else (noPlace, 6))
    else if (t.at (tIn t a ⟨s.toArray⟩)).kind = 3 ∧ (rest ≠ [] ∨ follow = true ∨ dirs = true) then
      (if 16 < hops + 1 then (noPlace, 12)
      else inGo t u g follow f (if (t.at (tIn t a ⟨s.toArray⟩)).target.data.toList.head? = some 47 then 1 else a) (partsOf (t.at (tIn t a ⟨s.toArray⟩)).target.data.toList ++ rest) (dirs || rest.isEmpty && slashEnd (t.at (tIn t a ⟨s.toArray⟩)).target.data.toList) (hops + 1))
    else if rest = [] ∧ ((t.at (tIn t a ⟨s.toArray⟩)).kind ≠ 1 ∨ dirs = false) then (⟨a, s, tIn t a ⟨s.toArray⟩, dirs⟩, 0)
    else if (t.at (tIn t a ⟨s.toArray⟩)).kind ≠ 2 then (noPlace, 9)
    else inGo t u g follow f (tIn t a ⟨s.toArray⟩) rest dirs hops := rfl
set_option maxRecDepth 100000 in
theorem inGo_more {t : TTree} (h : TreeOK t) (u g : Int) (follow : Bool) : ∀ (f : Nat) (a : Int) (rest : List (List UInt8)) (dirs : Bool) (hops : Nat), DirAt t a → hops ≤ 16 → (16 - hops) * 1026 + rest.length < f →
    inGo t u g follow (f + 1) a rest dirs hops = inGo t u g follow f a rest dirs hops := by
  intro f
  induction f with
  | zero => intro a rest dirs hops _ _ hm; exact absurd hm (Nat.not_lt_zero _)
  | succ f ih =>
    intro a rest dirs hops hd hh hm
    cases rest with
    | nil => rfl
    | cons s rest =>
      rw [List.length_cons] at hm
      rw [inGo_cons, inGo_cons]
      refine ite_congr rfl (fun _ => rfl) (fun _ => ?_)
      refine ite_congr rfl (fun _ => rfl) (fun _ => ?_)
      refine ite_congr rfl (fun _ => ih a rest dirs hops hd hh (by omega)) (fun _ => ?_)
      refine ite_congr rfl (fun _ => ih _ rest dirs hops (dirAt_parent h hd) hh (by omega)) (fun _ => ?_)
      refine ite_congr rfl (fun _ => rfl) (fun h0 => ?_)
      have hr := tIn_range h a ⟨s.toArray⟩
      refine ite_congr rfl (fun h3 => ?_) (fun _ => ?_)
      · refine ite_congr rfl (fun _ => rfl) (fun h16 => ?_)
        have hb := link_bd h hr.1 hr.2 h3.1
        have hp := parts_len (t.at (tIn t a ⟨s.toArray⟩)).target
        refine ih _ _ _ _ ?_ (by omega) (by rw [List.length_append]; omega)
        split
        · exact dirAt_root h
        · exact hd
      · refine ite_congr rfl (fun _ => rfl) (fun _ => ?_)
        refine ite_congr rfl (fun _ => rfl) (fun h2 => ?_)
        exact ih _ rest dirs hops ⟨by omega, hr.2, by omega⟩ hh (by omega)
theorem inGo_add {t : TTree} (h : TreeOK t) (u g : Int) (follow : Bool) (f : Nat) (a : Int) (rest : List (List UInt8)) (dirs : Bool) (hops : Nat) (hd : DirAt t a) (hh : hops ≤ 16) (hm : (16 - hops) * 1026 + rest.length < f) :
    ∀ k, inGo t u g follow (f + k) a rest dirs hops = inGo t u g follow f a rest dirs hops
  | 0 => rfl
  | k + 1 => by rw [← Nat.add_assoc, inGo_more h u g follow (f + k) a rest dirs hops hd hh (by omega)]; exact inGo_add h u g follow f a rest dirs hops hd hh hm k
theorem may_dir {t : TTree} {a : Int} (hd : DirAt t a) (g : Int) : mayB (t.at a) 0 g 1 = true := by
  unfold mayB
  rw [hd.2.2]
  simp
theorem inGo_dots {t : TTree} (g : Int) (follow : Bool) (f : Nat) (a : Int) (rest : List (List UInt8)) (dirs : Bool) (hops : Nat) (hd : DirAt t a) :
    ∀ k, inGo t 0 g follow (f + k) a (List.replicate k [46] ++ rest) dirs hops = inGo t 0 g follow f a rest dirs hops
  | 0 => rfl
  | k + 1 => by
    rw [← Nat.add_assoc, List.replicate_succ, List.cons_append, inGo_cons, if_neg (by rw [may_dir hd]; simp), if_neg (by simp), if_pos rfl]
    exact inGo_dots g follow f a rest dirs hops hd k
/-- Slashes and points, as they stand ahead of a path. -/
structure Idle (s : List UInt8) (k : Nat) : Prop where
  parts : ∀ x, partsOf (s ++ x) = List.replicate k [46] ++ partsOf x
  head : s = [] ∨ s.head? = some 46
  free : ∀ b ∈ s, b ≠ 0
theorem idle_nil : Idle [] 0 := ⟨fun _ => rfl, .inl rfl, fun _ h => by cases h⟩
theorem idle_dot {s : List UInt8} {k : Nat} (h : Idle s k) : Idle (s ++ [46, 47]) (k + 1) := by
  refine ⟨fun x => ?_, .inr ?_, fun b hb => ?_⟩
  · rw [List.append_assoc, h.parts, show ([46, 47] : List UInt8) ++ x = [46] ++ 47 :: x from rfl, partsOf_split, List.replicate_succ', List.append_assoc]; rfl
  · rcases h.head with rfl | h
    · rfl
    · rw [List.head?_append, h]; rfl
  · rcases List.mem_append.1 hb with hb | hb
    · exact h.free b hb
    · simp at hb; rcases hb with rfl | rfl <;> decide
theorem idle_slash {s : List UInt8} {k : Nat} (h : Idle s k) (hs : s ≠ []) : Idle (s ++ [47]) k := by
  refine ⟨fun x => ?_, .inr ?_, fun b hb => ?_⟩
  · rw [List.append_assoc, h.parts, show ([47] : List UInt8) ++ x = [] ++ 47 :: x from rfl, partsOf_split]; rfl
  · rcases h.head with h | h
    · exact absurd h hs
    · rw [List.head?_append, h]; rfl
  · rcases List.mem_append.1 hb with hb | hb
    · exact h.free b hb
    · simp at hb; rw [hb]; decide
theorem slashEnd_append (s p : List UInt8) (hp : p ≠ []) : slashEnd (s ++ p) = slashEnd p := by
  rcases List.eq_nil_or_concat p with h | ⟨r, b, h⟩
  · exact absurd h hp
  · rw [h, List.concat_eq_append, ← List.append_assoc, slashEnd_snoc, slashEnd_snoc]
theorem index_ge (l : List UInt8) (b : UInt8) : 0 ≤ Lib.indexByte l b ↔ b ∈ l := by
  have := Lib.contains_iff_indexByte l b
  rw [← List.contains_iff_mem, this, decide_eq_true_iff]
theorem badS_idle {s p : List UInt8} {k : Nat} (h : Idle s k) (hl : s.length + p.length ≤ 1024) : badS (s ++ p) = badS p := by
  have e1 : decide (1024 < (s ++ p).length) = decide (1024 < p.length) := by rw [List.length_append, decide_eq_false (by omega), decide_eq_false (by omega)]
  have e2 : decide (0 ≤ Lib.indexByte (s ++ p) 0) = decide (0 ≤ Lib.indexByte p 0) := decide_eq_decide.2 (by
    rw [index_ge, index_ge, List.mem_append]
    exact ⟨fun h1 => h1.elim (fun h1 => absurd rfl (h.free 0 h1)) id, .inr⟩)
  unfold badS
  rw [e1, e2]
theorem count_parts (p : List UInt8) : (partsOf p).length ≤ p.length + 1 := by
  have := parts_len ⟨p.toArray⟩
  have e : (⟨p.toArray⟩ : ByteArray).size = p.length := by simp [ByteArray.size]
  rw [e] at this
  simpa using this
theorem find_idle (t : TTree) (g m d : Int) (fl : Bool) {s p : List UInt8} {k : Nat} (h : Idle s k) (hk : k ≤ 20) (hl : s.length + p.length ≤ 1024) (hp : p ≠ []) (hh : p.head? ≠ some 47) :
    findS t 0 g m d (s ++ p) fl = findS t 0 g m d p fl := by
  unfold findS
  by_cases hperm : permB t 0 g m d = true
  · rw [if_pos hperm, if_pos hperm]
    obtain ⟨hT, hD⟩ := permB_dir hperm
    have hsh : (s ++ p).head? ≠ some 47 := by
      rcases h.head with rfl | h
      · exact hh
      · rw [List.head?_append, h]; simp
    unfold inS
    rw [if_neg (by simp [hp]), if_neg hp, badS_idle h hl, if_neg hsh, if_neg hh, h.parts, slashEnd_append s p hp]
    refine ite_congr rfl (fun _ => rfl) (fun _ => ?_)
    have hc := count_parts p
    obtain ⟨f, hf⟩ : ∃ f, 20000 = f + k := ⟨20000 - k, by omega⟩
    rw [hf, inGo_dots g fl f d _ _ 0 hD k, inGo_add hT 0 g fl f d _ _ 0 hD (by omega) (by omega) k]
  · rw [if_neg hperm, if_neg hperm]
/-! A directory's path. -/
def slashed (l : List ByteArray) : List UInt8 := l.flatMap fun x => 47 :: x.data.toList
theorem join_slashed : ∀ (l : List ByteArray), l ≠ [] → 47 :: Go.Lib.join (l.map (·.data.toList)) [47] = slashed l
  | [], h => absurd rfl h
  | [x], _ => by rw [List.map_cons, List.map_nil, join_cons1]; simp [slashed]
  | x :: y :: r, _ => by
    rw [List.map_cons, List.map_cons, join_cons2]
    have := join_slashed (y :: r) (by simp)
    rw [List.map_cons] at this
    rw [this]
    simp [slashed]
theorem name_parts {x : ByteArray} (h : nameOK x = true) : x.data.toList ≠ [] ∧ 47 ∉ x.data.toList := by
  refine ⟨fun e => ?_, fun e => nameOK_no47 h 47 e rfl⟩
  have := nameOK_size h
  have h2 : x.data.toList.length = x.size := Array.length_toList
  rw [e] at h2
  simp at h2
  omega
theorem parts_slashed : ∀ (l : List ByteArray), (∀ x ∈ l, nameOK x = true) → partsOf (slashed l) = l.map (·.data.toList)
  | [], _ => rfl
  | [x], h => by
    obtain ⟨h1, h2⟩ := name_parts (h x (by simp))
    rw [show slashed [x] = [] ++ 47 :: x.data.toList by simp [slashed], partsOf_split, partsOf_none _ h2, if_neg h1]; rfl
  | x :: y :: r, h => by
    obtain ⟨h1, h2⟩ := name_parts (h x (by simp))
    have ih := parts_slashed (y :: r) fun z hz => h z (by simp [hz])
    have e : slashed (x :: y :: r) = [] ++ 47 :: (x.data.toList ++ 47 :: (y.data.toList ++ slashed r)) := by simp [slashed]
    have e2 : slashed (y :: r) = [] ++ 47 :: (y.data.toList ++ slashed r) := by simp [slashed]
    rw [e2, partsOf_split] at ih
    rw [e, partsOf_split, partsOf_split, partsOf_none x.data.toList h2, if_neg h1, List.map_cons, ← ih]; rfl
theorem inGo_step {t : TTree} (h : TreeOK t) (follow : Bool) (f : Nat) {d : Int} (h1 : 1 < d) (h2 : d < t.nodes.length) (hk : (t.at d).kind = 2) (hp : DirAt t (t.at d).parent) (rest : List (List UInt8)) (dirs : Bool) :
    inGo t 0 0 follow (f + 1) (t.at d).parent ((nameOf t d).data.toList :: rest) dirs 0 = if rest = [] then (⟨(t.at d).parent, (nameOf t d).data.toList, d, dirs⟩, 0) else inGo t 0 0 follow f d rest dirs 0 := by
  have hn : nameOK (nameOf t d) = true := by
    obtain ⟨i, n, e, hn, he, -, -, hnm, -⟩ := nameOf_spec h h1 h2 hk
    rw [hnm]; exact h.name_le hn he
  have hsz := nameOK_size hn
  have hl : (nameOf t d).data.toList.length = (nameOf t d).size := Array.length_toList
  have hdots : (nameOf t d).toList ≠ [46] ∧ (nameOf t d).toList ≠ [46, 46] := by
    have := of_decide_eq_true (show decide _ = true from hn)
    exact ⟨this.2.2.1, this.2.2.2.1⟩
  rw [ByteArray.toList_eq] at hdots
  have ht : tIn t (t.at d).parent ⟨(nameOf t d).data.toList.toArray⟩ = d := by rw [bytes_back]; exact tIn_name h h1 h2 hk
  rw [inGo_cons, if_neg (by rw [may_dir hp]; simp), if_neg (by omega), if_neg hdots.1, if_neg hdots.2, ht, if_neg (by omega), if_neg (by rw [hk]; omega)]
  by_cases hr : rest = []
  · rw [if_pos ⟨hr, .inl (by rw [hk]; omega)⟩, if_pos hr]
  · rw [if_neg (fun e => hr e.1), if_neg (by rw [hk]; omega), if_neg hr]
theorem inGo_climb {t : TTree} (h : TreeOK t) (follow : Bool) (f : Nat) (rest : List (List UInt8)) (hr : rest ≠ []) (dirs : Bool) : ∀ (k : Nat) (d : Int), upB t k d = true → DirAt t d →
    inGo t 0 0 follow (f + (climb t k d).length) 1 ((climb t k d).reverse.map (·.data.toList) ++ rest) dirs 0 = inGo t 0 0 follow f d rest dirs 0 := by
  intro k
  induction k generalizing f rest with
  | zero => intro d hu _; simp [upB] at hu; subst hu; rfl
  | succ k ih =>
    intro d hu hd
    by_cases h1 : d = 1
    · subst h1; rw [climb_one]; rfl
    · obtain ⟨j, hj, a, b, c, e⟩ := upB_next hu h1
      obtain rfl : k = j := by omega
      have hp := dirAt_parent h hd
      rw [climb, if_neg h1, List.reverse_cons, List.map_append, List.append_assoc, List.length_cons, show f + ((climb t k (t.at d).parent).length + 1) = (f + 1) + (climb t k (t.at d).parent).length by omega]
      rw [ih (f + 1) _ (by simp) _ e hp, List.map_cons, List.map_nil, List.cons_append, List.nil_append, inGo_step h follow f a b c hp rest dirs, if_neg hr]
theorem slashed_end (l : List ByteArray) (x : ByteArray) (h : nameOK x = true) : slashEnd (slashed (l ++ [x])) = false := by
  obtain ⟨h1, h2⟩ := name_parts h
  obtain ⟨r, b, hb⟩ : ∃ r b, x.data.toList = r ++ [b] := by
    rcases List.eq_nil_or_concat x.data.toList with e | ⟨r, b, e⟩
    · exact absurd e h1
    · exact ⟨r, b, by rw [e, List.concat_eq_append]⟩
  have e : slashed (l ++ [x]) = (slashed l ++ 47 :: r) ++ [b] := by simp [slashed, hb]
  rw [e, slashEnd_snoc]
  refine beq_eq_false_iff_ne.2 fun e => h2 ?_
  rw [hb, e]; simp
theorem slashed_free (l : List ByteArray) (h : ∀ x ∈ l, nameOK x = true) : (0 : UInt8) ∉ slashed l := by
  unfold slashed
  rw [List.mem_flatMap]
  rintro ⟨x, hx, hm⟩
  rcases List.mem_cons.1 hm with e | hm
  · exact absurd e (by decide)
  · have hn := h x hx
    rw [nameOK, decide_eq_true_iff] at hn
    have hb := hn.2.2.2.2
    unfold hasBad at hb
    rw [List.any_eq_false] at hb
    exact hb 0 hm (by simp)
theorem find_back {t : TTree} (h : TreeOK t) {e n : Int} (he : DirAt t e) (hn : DirAt t n) (hl : (pathOf (climb t 32 n)).length ≤ 1024) : ∃ a s b, findS t 0 0 0 e (pathOf (climb t 32 n)) true = (⟨a, s, n, b⟩, 0) := by
  have hperm : permB t 0 0 0 e = true := by
    unfold permB
    rw [treeOK_yes h, decide_eq_true (by omega : (0 : Int) ≤ 0 ∧ (0 : Int) ≤ 0 ∧ (0 : Int) ≤ 0 ∧ (0 : Int) ≤ 65535 ∧ (0 : Int) ≤ 65535 ∧ (0 : Int) ≤ 511), decide_eq_true he.1, decide_eq_true he.2.1, he.2.2]; rfl
  have hu := h.up hn.1 hn.2.1 hn.2.2
  unfold findS
  rw [if_pos hperm]
  by_cases h1 : n = 1
  · subst h1
    rw [climb_one] at hl ⊢
    exact ⟨1, [], true, rfl⟩
  · obtain ⟨j, hj, a, b, c, e2⟩ := upB_next hu h1
    obtain rfl : 31 = j := by omega
    have hp := dirAt_parent h hn
    have hc : climb t 32 n = nameOf t n :: climb t 31 (t.at n).parent := by conv => lhs; rw [climb, if_neg h1]
    have hnames : ∀ x ∈ (climb t 32 n).reverse, nameOK x = true := fun x hx => climb_small h 32 n hu x (by simpa using hx)
    have hpath : pathOf (climb t 32 n) = slashed (climb t 32 n).reverse := by
      unfold pathOf
      exact join_slashed _ (by rw [hc]; simp)
    rw [hpath] at hl ⊢
    have hne : slashed (climb t 32 n).reverse ≠ [] := by rw [hc, List.reverse_cons]; simp [slashed]
    have hhead : (slashed (climb t 32 n).reverse).head? = some 47 := by
      cases hx : (climb t 32 n).reverse with
      | nil => rw [hc] at hx; simp at hx
      | cons x r => simp [slashed]
    have hbad : badS (slashed (climb t 32 n).reverse) = false := by
      unfold badS
      rw [decide_eq_false (by omega), decide_eq_false (by rw [index_ge]; exact slashed_free _ hnames)]; rfl
    have hend : slashEnd (slashed (climb t 32 n).reverse) = false := by
      rw [hc, List.reverse_cons]
      exact slashed_end _ _ (hnames _ (by rw [hc]; simp))
    unfold inS
    rw [if_neg hne, if_neg (by rw [hbad]; simp), if_pos hhead, parts_slashed _ hnames, hend, hc, List.reverse_cons, List.map_append, List.map_cons, List.map_nil]
    have hlen : (climb t 31 (t.at n).parent).length ≤ 31 := by
      rw [climb_length]; exact deepN_le _ _ _
    obtain ⟨f, hf⟩ : ∃ f, 20000 = (f + 1) + (climb t 31 (t.at n).parent).length := ⟨20000 - 1 - (climb t 31 (t.at n).parent).length, by omega⟩
    rw [hf, inGo_climb h true (f + 1) _ (by simp) false 31 _ e2 hp, inGo_step h true f a b c hp [] false, if_pos rfl]
    exact ⟨_, _, _, rfl⟩
end Go.Proofs.YtdidhelkmnkhcaaDoor
