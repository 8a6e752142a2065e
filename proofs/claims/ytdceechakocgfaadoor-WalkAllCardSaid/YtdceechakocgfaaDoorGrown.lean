/- The Book: a kind's lists are grown, so far; any program. -/
import Derived.Test.YtdceechakocgfaaDoorFilled
import Derived.Test.YtdceechakocgfaaDoorM2
namespace Go.Proofs.YtdceechakocgfaaDoor
open Go.RowKit
/-- 'append' lays the new ones behind the old ones, where there is room, or all of them anew, and nothing else. -/
theorem append_strong {P : Program} {w : World} {base : Nat} {t ty e : TypeId} {i : TypeInfo} {z : Value} {size bytes : Nat} (ht : P.underlying t = some (.slice e)) (hi : P.info? e = some i) (hz : i.zero = some z)
    (hsize : i.size = size) (hby : i.bytes = bytes) {v : Value} {n : Nat} {xs : List Value} (hown : w.ownsRow base e size v n xs)
    {a : Addr} {m c : Nat} {news : List Value} (hl : news.length = m * size) (hnews : ∀ j u, news[j]? = some u → w.cell? (a.add j) = some u) (h1 : ∀ u ∈ news, u.oneCell' = true)
    (h63 : n + m ≤ maxLen) (hbytes : (n + m) * bytes ≤ 140737488355328) (hm : 0 < m) {v' : Value} {w' : World} (hr : (Builtin.append_ #[t, t] ty #[v, .slice (some a) m c]).run P w = .ok v' w') :
    v'.ownBlock = v.ownBlock ∨ (v'.ownBlock = some w.heap.size ∧ w.grownBy w' none) := by
  subst hsize
  subst hby
  have hsmall : n + m ≤ 9223372036854775807 := by simp only [maxLen] at h63; omega
  rcases hown.2 with ⟨rfl, rfl⟩ | ⟨g, cap, cur, rfl, hbg, hg, hnc, hcm, hcs, htake⟩
  · have hr2 := run_append_nil (P := P) w t ty e i z ht hi hz a m c news hl hnews hm (by omega) (by have hb := hbytes; simp only [Nat.zero_add] at hb; omega)
    rw [hr2] at hr
    cases hr
    exact .inr ⟨rfl, ⟨rfl, rfl, rfl, by simp, fun k hk _ => heap_alloc_old w.drew _ hk⟩⟩
  · by_cases hroom : n + m ≤ cap
    · have hfit : n * i.size + news.length ≤ cur.size := by rw [hl, hcs, ← Nat.add_mul]; exact Nat.mul_le_mul_right _ hroom
      have hr2 := run_append_room (P := P) w t ty e i ht hi g n cap cur hg a m c news hl hnews h1 hroom hfit
      rw [hr2] at hr
      cases hr
      exact .inl rfl
    · have holds : ∀ j u, xs[j]? = some u → w.cell? ((⟨g, 0, none⟩ : Addr).add j) = some u := hown.cells (g := g) rfl
      have hr2 := run_append_grow (P := P) w t ty e i z ht hi hz ⟨g, 0, none⟩ n cap xs hown.1 holds a m c news hl hnews (by omega) (by omega) (growslice_fits (by omega) hbytes)
      rw [hr2] at hr
      cases hr
      exact .inr ⟨rfl, ⟨rfl, rfl, rfl, by simp, fun k hk _ => heap_alloc_old w.drew _ hk⟩⟩
theorem wpList_append_grow {P : Program} {ops : Array Oper} {rest : List Oper} {o : Oper} {a : Act} {Q : Exit → Act → World → Prop} (hgd : o.guard = none) (s x : Operand) (t : TypeId)
    (ho : o.op = .call { callee := .builtin .append, args := #[s, x], argTypes := #[t, t] }) {B : Nat} {w : World} {e e' : TypeId} {size bytes : Nat} (he : Elem P t e size bytes)
    {v : Value} {rows : List (List Value)} (n : Nat) (hn : rows.length = n) (row : List Value) (hs : a.eval s = v) (hown : Own w B e size v rows) (hB : B ≤ w.heap.size)
    (hx : a.eval x = .slice (some ⟨w.heap.size, 0, none⟩) 1 1) (hl : row.length = size) (h1 : ∀ u ∈ row, u.oneCell' = true) (hm : n + 1 ≤ maxLen) (hbytes : (n + 1) * bytes ≤ 140737488355328)
    (h : ∀ v' w', Own w' B e size v' (rows ++ [row]) → w.grownBy w' v.ownBlock → (v'.ownBlock = v.ownBlock ∨ ∃ k, v'.ownBlock = some k ∧ w.heap.size ≤ k ∧ w.grownBy w' none) → (∃ A c, v' = .slice A (n + 1) c) → wpList P ops Q rest (a.put o.dst v') w') :
    wpList P ops Q (o :: rest) a (w.alloc (.cells row.toArray e')) := by
  subst hn
  obtain ⟨i, z, ht, hi, hz, hsize, hby, hzs, hsz⟩ := he.ex
  refine wpList_plain hgd fun K hK => ?_
  have hnews : ∀ j u, row[j]? = some u → (w.alloc (.cells row.toArray e')).cell? ((⟨w.heap.size, 0, none⟩ : Addr).add j) = some u := by
    intro j u hj
    rw [show (⟨w.heap.size, 0, none⟩ : Addr).add j = ⟨w.heap.size, j, none⟩ by unfold Addr.add; split <;> simp_all, cell_of_row _ w.heap.size j _ _ _ (heap_alloc_new _ _)]
    simpa using hj
  have hl1 : row.length = 1 * size := by rw [hl, Nat.one_mul]
  obtain ⟨v', w', hr, h2, h3, h4, h5⟩ := run_append_own_at (P := P) (w.alloc (.cells row.toArray e')) B t o.type e i z size bytes ht hi hz hsize hby hzs hsz v rows.length rows.flatten (hown.own.alloc _) ⟨w.heap.size, 0, none⟩ 1 1 row hl1 hnews h1 hm hbytes (by simp; omega)
  have h6 := append_strong (P := P) ht hi hz hsize hby (hown.own.alloc (.cells row.toArray e')) hl1 hnews h1 hm hbytes (by decide) hr
  unfold Oper.wp execOp
  simp only [ho, resolve, invoke, builtin, Sem.run_bind, Sem.run_pure, Result.andThen_ok, List.map_toArray, List.map_cons, List.map_nil, hs, hx, hr]
  have hO : Own w' B e size v' (rows ++ [row]) := ⟨by simpa using h2, fun r hr => by
    rcases List.mem_append.1 hr with h | h
    · exact hown.each r h
    · rw [List.mem_singleton.1 h]; exact hl⟩
  obtain ⟨A, c, hA⟩ := own_len hO
  refine hK _ _ (h v' w' hO (World.grownBy.trans (World.grownBy_alloc _ _ _) h3) ?_ ⟨A, c, by simpa using hA⟩)
  rcases h6 with h6 | ⟨h6, h7⟩
  · exact .inl h6
  · exact .inr ⟨_, h6, by simp, World.grownBy.trans (World.grownBy_alloc _ _ _) h7⟩
/-- A kind's lists, the one at d being grown: v is what it is grown to, by the rows more. -/
structure KMid (w : World) (B : Nat) (lab : Lab) (j : Nat) (H e : TypeId) (z : Nat) (s : KS) (v : Value) (more : List (List Value)) : Prop where
  held : Own w B H 3 s.sv s.rows
  heldL : ∀ k, s.sv.ownBlock = some k → lab k = (j, 0)
  vL : ∀ x, x < s.N → ∀ k, (s.V x).ownBlock = some k → lab k = (j, x + 1)
  todo : ∀ x, s.d < x → x < s.N → Own w B e z (s.V x) (s.R x) ∧ s.L x = .slice none 0 0
  done : ∀ x, x < s.d → x < s.N → Rd w B z (s.V x) (s.R x) ∧ Own w B e z (s.L x) (s.R x ++ s.M x) ∧ ∀ k, (s.L x).ownBlock = some k → lab k = (j, x + 1)
  lt : s.d < s.N
  rd : Rd w B z (s.V s.d) (s.R s.d)
  now : Own w B e z v (s.R s.d ++ more)
  nowL : ∀ k, v.ownBlock = some k → lab k = (j, s.d + 1)
theorem Kind.mid {w : World} {B : Nat} {lab : Lab} {j : Nat} {H e : TypeId} {z : Nat} {s : KS} (h : Kind w B lab j H e z s) (hd : s.d < s.N) : KMid w B lab j H e z s (s.V s.d) [] := by
  obtain ⟨h1, h2⟩ := h.todo s.d (Nat.le_refl _) hd
  exact ⟨h.held, h.heldL, h.vL, fun x hx hN => h.todo x (by omega) hN, h.done, hd, h1.rd, by rw [List.append_nil]; exact h1, h.vL _ hd⟩
theorem KMid.vlt {w : World} {B : Nat} {lab : Lab} {j : Nat} {H e : TypeId} {z : Nat} {s : KS} {v : Value} {more : List (List Value)} (h : KMid w B lab j H e z s v more) {x : Nat} (hx : x < s.N) : ∀ k, (s.V x).ownBlock = some k → B ≤ k ∧ k < w.heap.size := by
  by_cases hd : s.d < x
  · exact (h.todo x hd hx).1.lt
  · by_cases he : x = s.d
    · subst he; exact h.rd.lt
    · exact (h.done x (by omega) hx).1.lt
theorem KMid.turned {S : Nat → Prop} {w w' : World} {B : Nat} {lab lab' : Lab} {j : Nat} {H e : TypeId} {z : Nat} {s : KS} {v : Value} {more : List (List Value)} (h : KMid w B lab j H e z s v more) (ht : Turned S w w') (hS : ∀ k, k < w.heap.size → S k → (lab k).1 ≠ j) (hl : LabUp w lab lab') : KMid w' B lab' j H e z s v more := by
  refine ⟨h.held.turned ht fun k hk hs => hS k (h.held.lt k hk).2 hs (by rw [h.heldL k hk]), fun k hk => (hl k (h.held.lt k hk).2).trans (h.heldL k hk), fun x hx k hk => (hl k (h.vlt hx k hk).2).trans (h.vL x hx k hk), fun x hd hx => ?_, fun x hd hx => ?_, h.lt, h.rd.turned ht fun k hk hs => hS k (h.rd.lt k hk).2 hs (by rw [h.vL _ h.lt k hk]), h.now.turned ht fun k hk hs => hS k (h.now.lt k hk).2 hs (by rw [h.nowL k hk]), fun k hk => (hl k (h.now.lt k hk).2).trans (h.nowL k hk)⟩
  · obtain ⟨h1, h2⟩ := h.todo x hd hx
    exact ⟨h1.turned ht fun k hk hs => hS k (h1.lt k hk).2 hs (by rw [h.vL x hx k hk]), h2⟩
  · obtain ⟨h1, h2, h3⟩ := h.done x hd hx
    exact ⟨h1.turned ht fun k hk hs => hS k (h1.lt k hk).2 hs (by rw [h.vL x hx k hk]), h2.turned ht fun k hk hs => hS k (h2.lt k hk).2 hs (by rw [h3 k hk]), fun k hk => (hl k (h2.lt k hk).2).trans (h3 k hk)⟩
/-- One more is put behind. -/
theorem KMid.step {w w' : World} {B : Nat} {lab : Lab} {j : Nat} {H e : TypeId} {z : Nat} {s : KS} {v v' : Value} {more : List (List Value)} {row : List Value} (h : KMid w B lab j H e z s v more) (hO : Own w' B e z v' (s.R s.d ++ more ++ [row])) (hg : w.grownBy w' v.ownBlock)
    (hv : v'.ownBlock = v.ownBlock ∨ ∃ k, v'.ownBlock = some k ∧ w.heap.size ≤ k ∧ w.grownBy w' none) (fresh : ∀ k, w.heap.size ≤ k → lab k = (0, 0)) :
    ∃ lab', LabUp w lab lab' ∧ (∀ k, w'.heap.size ≤ k → lab' k = (0, 0)) ∧ KMid w' B lab' j H e z s v' (more ++ [row]) ∧ Turned (fun b => lab b = (j, s.d + 1)) w w' := by
  have hT : Turned (fun b => v.ownBlock = some b) w w' := turned_grown hg fun k hk => hk
  have hne : ∀ k x, lab k = (j, x) → x ≠ s.d + 1 → ¬ v.ownBlock = some k := by
    intro k x hx hn hk
    rw [h.nowL k hk] at hx
    simp at hx; omega
  have hup : ∀ k, k < w.heap.size → (if w.heap.size ≤ k ∧ v'.ownBlock = some k then (j, s.d + 1) else lab k) = lab k := by
    intro k hk
    have : ¬ w.heap.size ≤ k := by omega
    simp [this]
  refine ⟨fun k => if w.heap.size ≤ k ∧ v'.ownBlock = some k then (j, s.d + 1) else lab k, hup, ?_, ?_, hT.mono fun b hb => h.nowL b hb⟩
  · intro k hk
    have h1 : v'.ownBlock ≠ some k := fun e => by have := (hO.lt k e).2; omega
    simp [h1, fresh k (Nat.le_trans hg.size hk)]
  · refine ⟨h.held.turned hT fun k hk hs => hne k 0 (h.heldL k hk) (by omega) hs, fun k hk => (hup k (h.held.lt k hk).2).trans (h.heldL k hk), fun x hx k hk => (hup k (h.vlt hx k hk).2).trans (h.vL x hx k hk), fun x hd hx => ?_, fun x hd hx => ?_, h.lt, ?_, by rw [← List.append_assoc]; exact hO, fun k hk => ?_⟩
    · obtain ⟨h1, h2⟩ := h.todo x hd hx
      exact ⟨h1.turned hT fun k hk hs => hne k (x + 1) (h.vL x hx k hk) (by omega) hs, h2⟩
    · obtain ⟨h1, h2, h3⟩ := h.done x hd hx
      exact ⟨h1.turned hT fun k hk hs => hne k (x + 1) (h.vL x hx k hk) (by omega) hs, h2.turned hT fun k hk hs => hne k (x + 1) (h3 k hk) (by omega) hs, fun k hk => (hup k (h2.lt k hk).2).trans (h3 k hk)⟩
    · rcases hv with hv | ⟨k0, hv, hk0, hg0⟩
      · rcases h.rd with ⟨h1, h2⟩ | ⟨g, c, h1, h2, h3, h4, h5⟩
        · exact .inl ⟨h1, h2⟩
        · by_cases hgv : v.ownBlock = some g
          · have hlt := (hO.lt g (hv.trans hgv))
            refine .inr ⟨g, c, h1, h2, h3, hlt.2, fun i r hi jj u hu => ?_⟩
            rcases hO.shape with ⟨h6, h7⟩ | ⟨g', c', h6, -⟩
            · simp at h7
            · rw [h6] at hO hv
              have : g' = g := by
                have := hv.trans hgv
                simpa [Value.ownBlock] using this
              subst this
              refine hO.cell (i := i) ?_ hu
              rw [List.append_assoc, List.getElem?_append_left (List.getElem?_eq_some_iff.1 hi).1]; exact hi
          · exact Rd.turned (.inr ⟨g, c, h1, h2, h3, h4, h5⟩) hT fun k hk hs => by rw [h1] at hk; simp [Value.ownBlock] at hk; subst hk; exact hgv hs
      · exact h.rd.turned (turned_grown (S := fun _ => False) hg0 fun k hk => by cases hk) fun _ _ h => h
    · by_cases hk' : w.heap.size ≤ k
      · simp [hk, hk']
      · rcases hv with hv | ⟨k0, hv, hk0, hg0⟩
        · simp only [hk', false_and, if_false]
          exact h.nowL k (hv ▸ hk)
        · rw [hv] at hk; cases hk; omega
theorem set_same {α : Type} : ∀ {l : List α} {i : Nat} {a : α}, l[i]? = some a → l.set i a = l
  | [], _, _, _ => rfl
  | x :: l, 0, a, h => by simp at h; simp [h]
  | x :: l, i + 1, a, h => by simp at h; simp [set_same h]
/-- What it is grown to is laid into its place. -/
theorem KMid.put {w : World} {B : Nat} {lab : Lab} {j : Nat} {H e : TypeId} {z : Nat} {s : KS} {v : Value} {more : List (List Value)} (h : KMid w B lab j H e z s v more) {gs n c : Nat} (hsv : s.sv = .slice (some ⟨gs, 0, none⟩) n c) :
    Kind (w.setCell ⟨gs, s.d * 3 + 1, none⟩ v) B lab j H e z { s with L := upd s.L s.d v, M := upd s.M s.d more, d := s.d + 1 } ∧ Turned (fun b => lab b = (j, 0)) w (w.setCell ⟨gs, s.d * 3 + 1, none⟩ v) := by
  have hgl : lab gs = (j, 0) := h.heldL gs (by rw [hsv]; rfl)
  have hT : Turned (fun b => b = gs) w (w.setCell ⟨gs, s.d * 3 + 1, none⟩ v) := turned_set w gs _ v rfl
  have hne : ∀ k x, lab k = (j, x + 1) → ¬ k = gs := by
    intro k x hx e
    rw [e, hgl] at hx; simp at hx
  refine ⟨⟨?_, h.heldL, h.vL, fun x hd hx => ?_, fun x hd hx => ?_⟩, hT.mono fun b hb => by rw [hb]; exact hgl⟩
  · have ho := h.held
    have hrl := s.rows_length
    obtain ⟨A, c', h1⟩ := own_len ho
    rw [hsv] at h1
    cases h1
    have hrow := s.rows_get h.lt
    rw [hsv] at ho
    have h2 := owns_sets [v] (s.d * 3 + 1) ho.own
    have h3 := sets_flatten (z := 3) (k := s.d) (row := [s.V s.d, v, .int .i64 (s.num s.d)]) ho.each (by rw [hrl]; exact h.lt) rfl
    simp only [setsFrom] at h2 h3
    rw [set_same (i := s.d * 3) (by simpa using flatten_get ho.each hrow (j := 0) rfl)] at h3
    rw [set_same (i := s.d * 3 + 1 + 1) (by
      rw [List.getElem?_set_ne (by omega)]
      simpa using flatten_get ho.each hrow (j := 2) rfl)] at h3
    rw [h3] at h2
    have h4 : ({ s with L := upd s.L s.d v, M := upd s.M s.d more, d := s.d + 1 } : KS).rows = s.rows.set s.d [s.V s.d, v, .int .i64 (s.num s.d)] := by
      apply List.ext_getElem?
      intro x
      by_cases hx : x = s.d
      · subst hx
        have hg := ({ s with L := upd s.L s.d v, M := upd s.M s.d more, d := s.d + 1 } : KS).rows_get (x := s.d) h.lt
        rw [List.getElem?_set_self (by rw [hrl]; exact h.lt), hg]
        change some [s.V s.d, upd s.L s.d v s.d, .int .i64 (s.num s.d)] = _
        rw [upd_same]
      · rw [List.getElem?_set_ne (fun e => hx e.symm)]
        by_cases hN : x < s.N
        · have hg := ({ s with L := upd s.L s.d v, M := upd s.M s.d more, d := s.d + 1 } : KS).rows_get (x := x) hN
          rw [s.rows_get hN, hg]
          change some [s.V x, upd s.L s.d v x, .int .i64 (s.num x)] = _
          rw [upd_ne _ _ hx]
        · rw [List.getElem?_eq_none (by rw [KS.rows_length]; exact Nat.le_of_not_lt hN), List.getElem?_eq_none (by rw [hrl]; exact Nat.le_of_not_lt hN)]
    rw [h4, show ({ s with L := upd s.L s.d v, M := upd s.M s.d more, d := s.d + 1 } : KS).sv = s.sv from rfl, hsv]
    refine ⟨by rw [List.length_set]; exact h2, fun r hr => ?_⟩
    rcases List.mem_or_eq_of_mem_set hr with h5 | h5
    · exact ho.each r h5
    · rw [h5]; rfl
  · change s.d + 1 ≤ x at hd
    obtain ⟨h1, h2⟩ := h.todo x (by omega) hx
    refine ⟨h1.turned hT fun k hk hs => hne k x (h.vL x hx k hk) hs, ?_⟩
    change upd s.L s.d v x = _
    rw [upd_ne _ _ (by omega)]; exact h2
  · change x < s.d + 1 at hd
    change Rd _ B z (s.V x) (s.R x) ∧ Own _ B e z (upd s.L s.d v x) (s.R x ++ upd s.M s.d more x) ∧ ∀ k, (upd s.L s.d v x).ownBlock = some k → lab k = (j, x + 1)
    by_cases hxd : x = s.d
    · subst hxd
      rw [upd_same, upd_same]
      exact ⟨h.rd.turned hT fun k hk hs => hne k _ (h.vL _ h.lt k hk) hs, h.now.turned hT fun k hk hs => hne k _ (h.nowL k hk) hs, h.nowL⟩
    · rw [upd_ne _ _ hxd, upd_ne _ _ hxd]
      obtain ⟨h1, h2, h3⟩ := h.done x (by omega) hx
      exact ⟨h1.turned hT fun k hk hs => hne k x (h.vL x hx k hk) hs, h2.turned hT fun k hk hs => hne k x (h3 k hk) hs, h3⟩
end Go.Proofs.YtdceechakocgfaaDoor
