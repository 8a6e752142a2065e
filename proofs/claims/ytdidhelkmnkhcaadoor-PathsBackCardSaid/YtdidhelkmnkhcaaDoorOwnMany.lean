/- append of many elements onto a slice of the call's own, as a step of a region in any order; any program. -/
import Derived.Test.YtdidhelkmnkhcaaDoorOwn
import Derived.Laws.OwnMore
import Derived.Deep.RegionLaw
namespace Go.Proofs.YtdidhelkmnkhcaaDoor
open Go.RowKit
/-- Rows of cells, somewhere. -/
def SrcAt (w : World) (A : Option Addr) (news : List (List Value)) : Prop := news = [] ∧ A = none ∨ ∃ b o, A = some ⟨b, o, none⟩ ∧ ∀ (j : Nat) u, news.flatten[j]? = some u → w.cell? ⟨b, o + j, none⟩ = some u
theorem step_append_many {P : Program} {ops : Array Oper} {o : Oper} {a : Act} {w : World} {K : Act → World → Prop} {Q : Exit → Act → World → Prop} {E : Prop}
    (hg : o.guard = none) (s x : Operand) (t : TypeId) (ho : o.op = Op.call { callee := Callee.builtin Builtin.append, args := #[s, x], argTypes := #[t, t] })
    {W : World} {e : TypeId} {size bytes : Nat} (he : Elem P t e size bytes) {v : Value} {rows : List (List Value)} (n : Nat) (hn : rows.length = n) (hs : a.eval s = v) (hown : Own w W.heap.size e size v rows) (hb : Below W.heap.size W w)
    {A : Option Addr} {m c : Nat} (news : List (List Value)) (hx : a.eval x = .slice A m c) (hnil : A = none → c = 0) (hm : news.length = m) (heach : ∀ r ∈ news, r.length = size) (hsrc : SrcAt w A news) (h1 : ∀ u ∈ news.flatten, u.oneCell' = true)
    (hmax : n + m ≤ maxLen) (hbytes : (n + m) * bytes ≤ 140737488355328)
    (hK : ∀ v' w', Own w' W.heap.size e size v' (rows ++ news) → Below W.heap.size W w' → w.grownBy w' v.ownBlock → (v'.ownBlock = v.ownBlock ∨ v'.ownBlock = some w.heap.size) → K (a.put o.dst v') w') :
    if Region.wanted o (yielded ops a.tmps) = true then Oper.wp P o a w K Q else E := by
  subst hn hm
  have hw : Region.wanted o (yielded ops a.tmps) = true := by simp [Region.wanted, hg]
  rw [if_pos hw]
  obtain ⟨i, z, ht, hi, hz, hsize, hby, hzs, hsz⟩ := he.ex
  have hfl : ∀ (l : List (List Value)), (∀ r ∈ l, r.length = size) → l.flatten.length = l.length * size := by
    intro l hl
    induction l with
    | nil => simp
    | cons a r ih => rw [List.flatten_cons, List.length_append, hl a (by simp), ih fun x hx => hl x (by simp [hx]), List.length_cons, Nat.succ_mul]; omega
  rcases hsrc with ⟨rfl, rfl⟩ | ⟨b, off, rfl, hcell⟩
  · have hc0 := hnil rfl
    subst hc0
    have hrun := run_append_owned_none (P := P) (w := w) W.heap.size t o.type e i size ht hi v _ _ hown.own
    unfold Oper.wp
    simp [execOp, ho, resolve, invoke, builtin, hs, hx, hrun, Result.andThen]
    exact hK v w (by simpa using hown) hb ⟨rfl, rfl, rfl, Nat.le_refl _, fun _ _ _ => rfl⟩ (.inl rfl)
  · obtain ⟨v', w', hr, h2, h3, h4, h5⟩ := run_append_own_at (P := P) w W.heap.size t o.type e i z size bytes ht hi hz hsize hby hzs hsz v rows.length rows.flatten hown.own ⟨b, off, none⟩ news.length c news.flatten (hfl news heach) (fun j u hj => by
      rw [show (⟨b, off, none⟩ : Addr).add j = ⟨b, off + j, none⟩ by unfold Addr.add; split <;> simp_all]; exact hcell j u hj) h1 hmax hbytes hb.size
    unfold Oper.wp
    simp [execOp, ho, resolve, invoke, builtin, hs, hx, hr, Result.andThen]
    refine hK v' w' ⟨by simpa using h2, fun r hr => ?_⟩ (hb.grown h3 hb.size fun k hk => (hown.lt k hk).1) h3 h5
    rcases List.mem_append.1 hr with h | h
    · exact hown.each r h
    · exact heach r h
/-- 'append(s, x...)' in a plain region. -/
theorem wpList_append_many {P : Program} {ops : Array Oper} {rest : List Oper} {o : Oper} {a : Act} {w : World} {Q : Exit → Act → World → Prop}
    (hg : o.guard = none) (s x : Operand) (t : TypeId) (ho : o.op = Op.call { callee := Callee.builtin Builtin.append, args := #[s, x], argTypes := #[t, t] })
    {W : World} {e : TypeId} {size bytes : Nat} (he : Elem P t e size bytes) {v : Value} {rows : List (List Value)} (n : Nat) (hn : rows.length = n) (hs : a.eval s = v) (hown : Own w W.heap.size e size v rows) (hb : Below W.heap.size W w)
    {A : Option Addr} {m c : Nat} (news : List (List Value)) (hx : a.eval x = .slice A m c) (hnil : A = none → c = 0) (hm : news.length = m) (heach : ∀ r ∈ news, r.length = size) (hsrc : SrcAt w A news) (h1 : ∀ u ∈ news.flatten, u.oneCell' = true)
    (hmax : n + m ≤ maxLen) (hbytes : (n + m) * bytes ≤ 140737488355328)
    (hK : ∀ v' w', Own w' W.heap.size e size v' (rows ++ news) → Below W.heap.size W w' → w.grownBy w' v.ownBlock → (v'.ownBlock = v.ownBlock ∨ v'.ownBlock = some w.heap.size) → wpList P ops Q rest (a.put o.dst v') w') :
    wpList P ops Q (o :: rest) a w := by
  refine wpList_plain hg fun K hK2 => ?_
  have hw : Region.wanted o (yielded ops a.tmps) = true := by simp [Region.wanted, hg]
  have h := step_append_many (ops := ops) (a := a) (w := w) (K := K) (Q := Q) (E := True) hg s x t ho he n hn hs hown hb news hx hnil hm heach hsrc h1 hmax hbytes (fun v' w' a1 a2 a3 a4 => hK2 _ _ (hK v' w' a1 a2 a3 a4))
  rwa [if_pos hw] at h
end Go.Proofs.YtdidhelkmnkhcaaDoor
