/- walk.Walk's own cells: the steps so far, the shut paths so far; what puts one behind; any program. -/
import Derived.Test.YtdceechakocgfaaDoorRange
import Derived.Test.YtdceechakocgfaaDoorM2
namespace Go.Proofs.YtdceechakocgfaaDoor
open Go.RowKit
def stepRows (o : List TStep) : List (List Value) := o.map fun s => s.cells.toList
def pathRows (s : List ByteArray) : List (List Value) := s.map fun p => [.string p]
structure WI' (B bo bs : Nat) (T T' e e' : TypeId) (O : Nat → Prop) (o : List TStep) (s : List ByteArray) (W : World) (vo vs : Value) : Prop where
  ro : W.heap[bo]? = some (.cells #[vo] T (0, 0))
  rs : W.heap[bs]? = some (.cells #[vs] T' (0, 0))
  oo : Own W B e 4 vo (stepRows o)
  os : Own W B e' 1 vs (pathRows s)
  own : ∀ k, O k ↔ k = bo ∨ k = bs ∨ vo.ownBlock = some k ∨ vs.ownBlock = some k
  ne : bo ≠ bs ∧ vo.ownBlock ≠ some bo ∧ vo.ownBlock ≠ some bs ∧ vs.ownBlock ≠ some bo ∧ vs.ownBlock ≠ some bs ∧ ∀ k, vo.ownBlock = some k → vs.ownBlock ≠ some k
def WI (B bo bs : Nat) (T T' e e' : TypeId) (O : Nat → Prop) (o : List TStep) (s : List ByteArray) (W : World) : Prop := ∃ vo vs, WI' B bo bs T T' e e' O o s W vo vs
theorem WI'.lt {B bo bs : Nat} {T T' e e' : TypeId} {O : Nat → Prop} {o : List TStep} {s : List ByteArray} {W : World} {vo vs : Value} (h : WI' B bo bs T T' e e' O o s W vo vs) : ∀ k, O k → k < W.heap.size := by
  intro k hk
  rcases (h.own k).1 hk with rfl | rfl | hk | hk
  · exact (Array.getElem?_eq_some_iff.1 h.ro).1
  · exact (Array.getElem?_eq_some_iff.1 h.rs).1
  · exact (h.oo.lt k hk).2
  · exact (h.os.lt k hk).2
theorem WI.turned {B bo bs : Nat} {T T' e e' : TypeId} {O : Nat → Prop} {o : List TStep} {s : List ByteArray} {W W' : World} (h : WI B bo bs T T' e e' O o s W) (ht : Turned (fun k => ¬ O k) W W') : WI B bo bs T T' e e' O o s W' := by
  obtain ⟨vo, vs, h⟩ := h
  have hn : ∀ k, O k → ¬ ¬ O k := fun k hk h => h hk
  exact ⟨vo, vs, (ht.block _ (Array.getElem?_eq_some_iff.1 h.ro).1 (hn _ ((h.own _).2 (.inl rfl)))).trans h.ro, (ht.block _ (Array.getElem?_eq_some_iff.1 h.rs).1 (hn _ ((h.own _).2 (.inr (.inl rfl))))).trans h.rs, h.oo.turned ht fun k hk => hn k ((h.own k).2 (.inr (.inr (.inl hk)))), h.os.turned ht fun k hk => hn k ((h.own k).2 (.inr (.inr (.inr hk)))), h.own, h.ne⟩
/-- A step is put behind: the slice is grown, and laid into its box. -/
theorem WI'.putStep {B bo bs : Nat} {T T' e e' : TypeId} {O : Nat → Prop} {o : List TStep} {s : List ByteArray} {W W1 : World} {vo vs v' : Value} {x : TStep} (h : WI' B bo bs T T' e e' O o s W vo vs) (hO : Own W1 B e 4 v' (stepRows o ++ [x.cells.toList])) (hg : W.grownBy W1 vo.ownBlock) (hv : v'.ownBlock = vo.ownBlock ∨ ∃ k, v'.ownBlock = some k ∧ W.heap.size ≤ k) :
    Went (WI B bo bs T T' e e') O (o ++ [x]) s W (W1.setCell ⟨bo, 0, none⟩ v') := by
  obtain ⟨n1, n2, n3, n4, n5, n6⟩ := h.ne
  have lo := (Array.getElem?_eq_some_iff.1 h.ro).1
  have ls := (Array.getElem?_eq_some_iff.1 h.rs).1
  have hro := (hg.block bo lo (fun e => n2 e.symm)).trans h.ro
  have hrs := (hg.block bs ls (fun e => n3 e.symm)).trans h.rs
  have hT : Turned (fun k => vo.ownBlock = some k) W W1 := turned_grown hg fun k hk => hk
  have hT1 : Turned (fun k => k = bo) W1 (W1.setCell ⟨bo, 0, none⟩ v') := turned_set W1 bo 0 v' rfl
  have hvo : v'.ownBlock ≠ some bo ∧ v'.ownBlock ≠ some bs ∧ ∀ k, v'.ownBlock = some k → vs.ownBlock ≠ some k := by
    rcases hv with hv | ⟨k, hv, hk⟩
    · rw [hv]; exact ⟨n2, n3, n6⟩
    · refine ⟨fun h => ?_, fun h => ?_, fun k' hk' h' => ?_⟩
      · rw [hv] at h; cases h; omega
      · rw [hv] at h; cases h; omega
      · rw [hv] at hk'; cases hk'
        have := (h.os.lt _ h').2; omega
  have hos := (h.os.turned hT fun k hk hs => n6 k hs hk).turned hT1 fun k hk e => n4 (by rw [hk, e])
  refine ⟨fun k => k = bo ∨ k = bs ∨ v'.ownBlock = some k ∨ vs.ownBlock = some k, ⟨v', vs, ⟨?_, (hT1.block bs (Nat.lt_of_lt_of_le ls hg.size) (fun e => n1 e.symm)).trans hrs, ?_, hos, fun k => Iff.rfl, n1, hvo.1, hvo.2.1, n4, n5, hvo.2.2⟩⟩, ?_, ?_⟩
  · have := heap_setCell_same W1 bo 0 #[vo] _ v' hro
    simpa using this
  · have : stepRows (o ++ [x]) = stepRows o ++ [x.cells.toList] := by simp [stepRows]
    rw [this]
    exact hO.turned hT1 fun k hk e => hvo.1 (by rw [hk, e])
  · exact (hT.mono fun k hk => (h.own k).2 (.inr (.inr (.inl hk)))).trans (hT1.mono fun k hk => (h.own k).2 (.inl hk)) fun k _ h => h
  · intro k hk
    rcases hk with rfl | rfl | hk | hk
    · exact .inl ((h.own _).2 (.inl rfl))
    · exact .inl ((h.own _).2 (.inr (.inl rfl)))
    · rcases hv with hv | ⟨k', hv, hk'⟩
      · exact .inl ((h.own _).2 (.inr (.inr (.inl (hv ▸ hk)))))
      · rw [hv] at hk; cases hk; exact .inr hk'
    · exact .inl ((h.own _).2 (.inr (.inr (.inr hk))))
/-- A shut path is put behind. -/
theorem WI'.putPath {B bo bs : Nat} {T T' e e' : TypeId} {O : Nat → Prop} {o : List TStep} {s : List ByteArray} {W W1 : World} {vo vs v' : Value} {p : ByteArray} (h : WI' B bo bs T T' e e' O o s W vo vs) (hO : Own W1 B e' 1 v' (pathRows s ++ [[.string p]])) (hg : W.grownBy W1 vs.ownBlock) (hv : v'.ownBlock = vs.ownBlock ∨ ∃ k, v'.ownBlock = some k ∧ W.heap.size ≤ k) :
    Went (WI B bo bs T T' e e') O o (s ++ [p]) W (W1.setCell ⟨bs, 0, none⟩ v') := by
  obtain ⟨n1, n2, n3, n4, n5, n6⟩ := h.ne
  have lo := (Array.getElem?_eq_some_iff.1 h.ro).1
  have ls := (Array.getElem?_eq_some_iff.1 h.rs).1
  have hro := (hg.block bo lo (fun e => n4 e.symm)).trans h.ro
  have hrs := (hg.block bs ls (fun e => n5 e.symm)).trans h.rs
  have hT : Turned (fun k => vs.ownBlock = some k) W W1 := turned_grown hg fun k hk => hk
  have hT1 : Turned (fun k => k = bs) W1 (W1.setCell ⟨bs, 0, none⟩ v') := turned_set W1 bs 0 v' rfl
  have hvo : v'.ownBlock ≠ some bo ∧ v'.ownBlock ≠ some bs ∧ ∀ k, vo.ownBlock = some k → v'.ownBlock ≠ some k := by
    rcases hv with hv | ⟨k, hv, hk⟩
    · rw [hv]; exact ⟨n4, n5, n6⟩
    · refine ⟨fun h => ?_, fun h => ?_, fun k' hk' h' => ?_⟩
      · rw [hv] at h; cases h; omega
      · rw [hv] at h; cases h; omega
      · rw [hv] at h'; cases h'
        have := (h.oo.lt _ hk').2; omega
  have hoo := (h.oo.turned hT fun k hk hs => n6 k hk hs).turned hT1 fun k hk e => n3 (by rw [hk, e])
  refine ⟨fun k => k = bo ∨ k = bs ∨ vo.ownBlock = some k ∨ v'.ownBlock = some k, ⟨vo, v', ⟨(hT1.block bo (Nat.lt_of_lt_of_le lo hg.size) n1).trans hro, ?_, hoo, ?_, fun k => Iff.rfl, n1, n2, n3, hvo.1, hvo.2.1, hvo.2.2⟩⟩, ?_, ?_⟩
  · have := heap_setCell_same W1 bs 0 #[vs] _ v' hrs
    simpa using this
  · have : pathRows (s ++ [p]) = pathRows s ++ [[.string p]] := by simp [pathRows]
    rw [this]
    exact hO.turned hT1 fun k hk e => hvo.2.1 (by rw [hk, e])
  · exact (hT.mono fun k hk => (h.own k).2 (.inr (.inr (.inr hk)))).trans (hT1.mono fun k hk => (h.own k).2 (.inr (.inl hk))) fun k _ h => h
  · intro k hk
    rcases hk with rfl | rfl | hk | hk
    · exact .inl ((h.own _).2 (.inl rfl))
    · exact .inl ((h.own _).2 (.inr (.inl rfl)))
    · exact .inl ((h.own _).2 (.inr (.inr (.inl hk))))
    · rcases hv with hv | ⟨k', hv, hk'⟩
      · exact .inl ((h.own _).2 (.inr (.inr (.inr (hv ▸ hk)))))
      · rw [hv] at hk; cases hk; exact .inr hk'
end Go.Proofs.YtdceechakocgfaaDoor
