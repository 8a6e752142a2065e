/- The statement 'for s := range seq' of the walk: its body goes on always, in cells of its own, while the iterator may write others; any program. -/
import Derived.Test.YtdceechakocgfaaDoorComePure
namespace Go.Proofs.YtdceechakocgfaaDoor
open Go.RowKit
theorem turned_putObj {S : Nat → Prop} (w : World) (r : Nat) (o : Obj) (hs : S r) : Turned S w (w.putObj r o) :=
  ⟨rfl, rfl, rfl, Nat.le_of_eq (by simp [World.putObj]), fun k _ hn => World.putObj_heap_other (fun e => hn (by rw [e]; exact hs))⟩
/-- The body's own cells: in blocks O; stable where others write; a shut path is put behind. -/
structure IOK (P : Program) (f sb M : Nat) (I : (Nat → Prop) → List TStep → List ByteArray → World → Prop) : Prop where
  lt : ∀ O o s W, I O o s W → ∀ k, O k → k < W.heap.size
  turned : ∀ O o s W W', I O o s W → Turned (fun k => ¬ O k) W W' → I O o s W'
  shut : ∀ O o s p W, I O o s W → s.length < M → Calls P f #[.string p, .pointer (some ⟨sb, 0, none⟩)] W fun e W' => e = .returned (.tuple #[]) ∧ Went I O o (s ++ [p]) W W'
/-- The body's own cells, with the loop's record and the block for deferred calls. -/
def Rec (I : (Nat → Prop) → List TStep → List ByteArray → World → Prop) (l D : Nat) (rec : Loop) (O : Nat → Prop) (o : List TStep) (s : List ByteArray) (W : World) : Prop :=
  ∃ O1, (∀ k, O k ↔ O1 k ∨ k = l ∨ k = D) ∧ I O1 o s W ∧ ¬ O1 l ∧ ¬ O1 D ∧ W.heap[l]? = some (.loop rec) ∧ W.heap[D]? = some (.deferred (some []))
theorem rec_went {I : (Nat → Prop) → List TStep → List ByteArray → World → Prop} {l D : Nat} {rec : Loop} {O O1 : Nat → Prop} {o : List TStep} {s : List ByteArray} {W W' : World} (hO : ∀ k, O k ↔ O1 k ∨ k = l ∨ k = D) (hl : ¬ O1 l) (hD : ¬ O1 D) (hr : W.heap[l]? = some (.loop rec)) (hd : W.heap[D]? = some (.deferred (some []))) (h : Went I O1 o s W W') : Went (Rec I l D rec) O o s W W' := by
  obtain ⟨O2, h1, h2, h3⟩ := h
  have ll := (Array.getElem?_eq_some_iff.1 hr).1
  have ld := (Array.getElem?_eq_some_iff.1 hd).1
  refine ⟨fun k => O2 k ∨ k = l ∨ k = D, ⟨O2, fun k => Iff.rfl, h1, off_went h3 hl ll, off_went h3 hD ld, (h2.block l ll hl).trans hr, (h2.block D ld hD).trans hd⟩, h2.mono fun k hk => (hO k).2 (.inl hk), fun k hk => ?_⟩
  rcases hk with hk | hk
  · exact (h3 k hk).imp (fun h => (hO k).2 (.inl h)) id
  · exact .inl ((hO k).2 (.inr hk))
theorem fold_one (pv : Nat) (v : Value) (tm : Array Value) : (#[pv].zip #[v]).foldl (fun tmps (x : Nat × Value) => match x with | (t, a) => tmps.setIfInBounds t a) tm = tm.setIfInBounds pv v := by simp
theorem wp_range_on {P : Program} {g : Operand} {ps : Array Tmp} {assign body : Code} {Q : Exit → Act → World → Prop} {a : Act} {w : World} {gf f sb M : Nat} {lb : Array Value} {T : TypeId}
    (hg : a.eval g = .func (.func gf) #[] lb) (eg : ∀ args w, (callFunc gf args).run P w = .ok (.enter gf args) w) (sl pv : Nat) (hps : ps = #[pv])
    {I : (Nat → Prop) → List TStep → List ByteArray → World → Prop} (hI : IOK P f sb M I) {O0 : Nat → Prop} (h0 : I O0 [] [] w)
    (hassign : ∀ (l m : Nat) (x : TStep) (W : World) (K : Act → World → Prop), K { tmps := (a.tmps.setIfInBounds pv x.val).setIfInBounds sl (.pointer (some ⟨W.heap.size, 0, none⟩)), defers := [] } (W.alloc (.cells x.cells T)) →
      assign.wpIn (Fence.wide.inRound l) m P (Exit.then K (fun _ _ _ => False)) { tmps := a.tmps.setIfInBounds pv x.val, defers := [] } W)
    (hbody : ∀ (l m : Nat) (O : Nat → Prop) (o : List TStep) (s : List ByteArray) (x : TStep) (hx : Nat) (W : World), I O o s W → o.length < M → W.heap[hx]? = some (.cells x.cells T (0, 0)) → ¬ O hx →
      body.wpIn (Fence.wide.inRound l) m P (fun e _ W' => e = .normal ∧ Went I O (o ++ [x]) s W W') { tmps := (a.tmps.setIfInBounds pv x.val).setIfInBounds sl (.pointer (some ⟨hx, 0, none⟩)), defers := [] } W)
    {outs : List TStep} {shuts : List ByteArray}
    (hiter : ∀ (l : Nat) (J : (Nat → Prop) → List TStep → List ByteArray → World → Prop) (O : Nat → Prop) (W : World), JOK P f l sb M J → J O [] [] W → Below w.heap.size w W → (∀ k, O k → O0 k ∨ w.heap.size ≤ k) →
      Calls P gf (#[.func (.yield l) #[] #[]] ++ lb) W fun e W' => (∃ v, e = .returned v) ∧ Went J O outs shuts W W')
    (hdone : ∀ (D : Nat) (O : Nat → Prop) (W : World), I O outs shuts W → Turned O0 w W → w.heap.size ≤ D → W.heap[D]? = some (.deferred (some [])) → (∀ k, O k → O0 k ∨ w.heap.size ≤ k) → ¬ O D → Q .normal { a with defers := { target := .collected D, args := #[] } :: a.defers } W) :
    (Code.rangeFunc g ps assign body).wp P Q a w := by
  refine (wpIn_wide (n := 1000)).1 (wpIn_rangeFunc ?_)
  intro fn hfn
  subst hps
  obtain ⟨rec, hrec⟩ : ∃ rec : LoopState → Option Code → Loop, rec = fun st pe => { state := st, pending := pe, fn, tmps := a.tmps, params := #[pv], assign, body, defers := w.heap.size } := ⟨_, rfl⟩
  obtain ⟨W1, hW1⟩ : ∃ W1, (w.alloc (.deferred (some []))).alloc (.loop (rec .ready none)) = W1 := ⟨_, rfl⟩
  have hL1 : W1.heap[w.heap.size + 1]? = some (.loop (rec .ready none)) := by
    rw [← hW1]; have := World.alloc_heap_new (w.alloc (.deferred (some []))) (.loop (rec .ready none)); rwa [World.size_alloc] at this
  have hK1 : W1.heap[w.heap.size]? = some (.deferred (some [])) := by
    rw [← hW1]; exact (Below.heap_alloc _ _ _ (by simp)).trans (World.alloc_heap_new w _)
  have hb1 : Below w.heap.size w W1 := by
    rw [← hW1]; exact below_alloc (below_alloc (Below.refl _ _) _) _
  have hI1 : I O0 [] [] W1 := hI.turned _ _ _ _ _ h0 (turned_below hb1)
  have hOlt := hI.lt _ _ _ _ h0
  have hn1 : ¬ O0 (w.heap.size + 1) := fun h => by have := hOlt _ h; omega
  have hn0 : ¬ O0 w.heap.size := fun h => by have := hOlt _ h; omega
  refine ⟨w.heap.size + 1, [{ target := .collected w.heap.size, args := #[] }], W1, { target := .fn (.func gf) lb, args := #[.func (.yield (w.heap.size + 1)) #[] #[]] }, W1, gf,
    #[.func (.yield (w.heap.size + 1)) #[] #[]] ++ lb, W1, ?_, ?_, ?_, ?_, fun _ => by decide, ?_⟩
  · rw [← hW1, hrec]; exact run_enterLoop_outer _ _ _ _ _
  · simp only [resolve, hg]
    simp [go_sem]
  · intro f' hf'; trivial
  · simp [invoke, go_sem, eg]
  · have hJ : JOK P f (w.heap.size + 1) sb M (Rec I (w.heap.size + 1) w.heap.size (rec .ready none)) := by
      refine ⟨?_, ?_, ?_, ?_⟩
      · rintro O o s W ⟨O1, e1, e2, e3, e4, e5, e6⟩ k hk
        rcases (e1 k).1 hk with hk | rfl | rfl
        · exact hI.lt _ _ _ _ e2 k hk
        · exact (Array.getElem?_eq_some_iff.1 e5).1
        · exact (Array.getElem?_eq_some_iff.1 e6).1
      · rintro O o s W W' ⟨O1, e1, e2, e3, e4, e5, e6⟩ hT
        exact ⟨O1, e1, hI.turned _ _ _ _ _ e2 (hT.mono fun k hk h => hk ((e1 k).2 (.inl h))), e3, e4, (hT.block _ (Array.getElem?_eq_some_iff.1 e5).1 (fun h => h ((e1 _).2 (.inr (.inl rfl))))).trans e5, (hT.block _ (Array.getElem?_eq_some_iff.1 e6).1 (fun h => h ((e1 _).2 (.inr (.inr rfl))))).trans e6⟩
      · rintro m O o s x W ⟨O1, e1, e2, e3, e4, e5, e6⟩ hlen
        have hlt : w.heap.size + 1 < W.heap.size := (Array.getElem?_eq_some_iff.1 e5).1
        have hy := run_yield (P := P) (args := #[x.val]) e5 (by rw [hrec]; rfl)
        rw [hrec] at hy
        dsimp only at hy
        rw [fold_one] at hy
        refine ⟨fn, _, assign, body, hy, roundIn_of_wpIn trivial (hassign _ m x W _ ?_)⟩
        have hBa := below_alloc (Below.refl W.heap.size W) (.cells x.cells T)
        have e5a : (W.alloc (.cells x.cells T)).heap[w.heap.size + 1]? = some (.loop (rec .ready none)) := (hBa.block _ hlt).trans e5
        have e6a : (W.alloc (.cells x.cells T)).heap[w.heap.size]? = some (.deferred (some [])) := (hBa.block _ (by omega)).trans e6
        refine ⟨_, run_beginRound e5a (by rw [hrec]), ?_⟩
        obtain ⟨W2, hW2⟩ : ∃ W2, (W.alloc (.cells x.cells T)).putObj (w.heap.size + 1) (.loop { rec .ready none with state := .busy }) = W2 := ⟨_, rfl⟩
        rw [hW2]
        have hT2 : Turned (fun k => k = w.heap.size + 1) (W.alloc (.cells x.cells T)) W2 := by rw [← hW2]; exact turned_putObj _ _ _ rfl
        have hl2 : W2.heap[w.heap.size + 1]? = some (.loop { rec .ready none with state := .busy }) := by rw [← hW2]; exact World.putObj_heap_same (by simp; omega)
        have hk2 : W2.heap[w.heap.size]? = some (.deferred (some [])) := (hT2.block _ (by simp; omega) (by omega)).trans e6a
        have hx2 : W2.heap[W.heap.size]? = some (.cells x.cells T (0, 0)) := (hT2.block _ (by simp) (by omega)).trans (heap_alloc_new W _)
        have hI2 : I O1 o s W2 := hI.turned _ _ _ _ _ (hI.turned _ _ _ _ _ e2 (turned_below hBa)) (hT2.mono fun k hk => by rw [hk]; exact e3)
        have hnx : ¬ O1 W.heap.size := fun h => by have := hI.lt _ _ _ _ e2 _ h; omega
        refine wpIn_mono (hbody _ m O1 o s x W.heap.size W2 hI2 hlen hx2 hnx) ?_
        rintro e a3 W3 ⟨rfl, O3, hI3, hT3, hO3⟩
        have hl3 := (hT3.block _ (Array.getElem?_eq_some_iff.1 hl2).1 e3).trans hl2
        have hk3 := (hT3.block _ (Array.getElem?_eq_some_iff.1 hk2).1 e4).trans hk2
        have hr3 := run_endRound (P := P) none hl3
        obtain ⟨W4, hW4⟩ : ∃ W4, W3.putObj (w.heap.size + 1) (.loop (rec .ready none)) = W4 := ⟨_, rfl⟩
        have hT4 : Turned (fun k => k = w.heap.size + 1) W3 W4 := by rw [← hW4]; exact turned_putObj _ _ _ rfl
        have o3l : ¬ O3 (w.heap.size + 1) := off_went hO3 e3 (Array.getElem?_eq_some_iff.1 hl2).1
        have o3d : ¬ O3 w.heap.size := off_went hO3 e4 (Array.getElem?_eq_some_iff.1 hk2).1
        refine ⟨_, W4, ?_, rfl, fun k => O3 k ∨ k = w.heap.size + 1 ∨ k = w.heap.size, ⟨O3, fun k => Iff.rfl, hI.turned _ _ _ _ _ hI3 (hT4.mono fun k hk => by rw [hk]; exact o3l), o3l, o3d, by rw [← hW4]; exact World.putObj_heap_same (Array.getElem?_eq_some_iff.1 hl3).1, (hT4.block _ (Array.getElem?_eq_some_iff.1 hk3).1 (by omega)).trans hk3⟩, ?_, ?_⟩
        · rw [hrec] at hr3
          rw [← hW4, hrec]
          exact hr3
        · refine Turned.trans (w1 := W2) ?_ ((hT3.mono fun k hk => (e1 k).2 (.inl hk)).trans (hT4.mono fun k hk => (e1 k).2 (.inr (.inl hk))) fun k _ h => h) fun k _ h => h
          exact (turned_below (S := O) hBa).trans (hT2.mono fun k hk => (e1 k).2 (.inr (.inl hk))) fun k _ h => h
        · intro k hk
          rcases hk with hk | hk
          · rcases hO3 k hk with h | h
            · exact .inl ((e1 k).2 (.inl h))
            · exact .inr (Nat.le_trans (Nat.le_trans hBa.size hT2.size) h)
          · exact .inl ((e1 k).2 (.inr hk))
      · rintro O o s p W ⟨O1, e1, e2, e3, e4, e5, e6⟩ hlen
        exact (hI.shut O1 o s p W e2 hlen).mono fun e W' ⟨h1, h2⟩ => ⟨h1, rec_went e1 e3 e4 e5 e6 h2⟩
    refine (callsIn_wide (n := 1000 - 1)).2 ((hiter (w.heap.size + 1) _ (fun k => O0 k ∨ k = w.heap.size + 1 ∨ k = w.heap.size) W1 hJ ⟨O0, fun k => Iff.rfl, hI1, hn1, hn0, hL1, hK1⟩ hb1 ?_).mono ?_)
    · rintro k (hk | rfl | rfl)
      · exact .inl hk
      · exact .inr (by omega)
      · exact .inr (Nat.le_refl _)
    · rintro e W2 ⟨⟨v, rfl⟩, O2, ⟨O3, e1, e2, e3, e4, e5, e6⟩, hT, hO⟩
      have hend := run_endLoop (P := P) e5 (by rw [hrec]; simp)
      rw [hrec] at hend
      refine ⟨none, _, hend, ?_⟩
      obtain ⟨W4, hW4⟩ : ∃ W4, W2.putObj (w.heap.size + 1) (.loop { rec .ready none with state := .exhausted }) = W4 := ⟨_, rfl⟩
      have hT4 : Turned (fun k => k = w.heap.size + 1) W2 W4 := by rw [← hW4]; exact turned_putObj _ _ _ rfl
      rw [hrec] at hW4
      simp only at hW4 ⊢
      rw [hW4]
      refine hdone w.heap.size O3 W4 (hI.turned _ _ _ _ _ e2 (hT4.mono fun k hk => by rw [hk]; exact e3)) ?_ (Nat.le_refl _) ((hT4.block _ (Array.getElem?_eq_some_iff.1 e6).1 (by omega)).trans e6) ?_ e4
      · have h1 : Turned O0 w W1 := turned_below hb1
        refine h1.trans (T := fun k => O0 k ∨ w.heap.size ≤ k) ?_ fun k hk h => h.elim id fun h => absurd h (by omega)
        refine Turned.trans (w1 := W2) (hT.mono fun k hk => ?_) (hT4.mono fun k hk => .inr (by omega)) fun k _ h => h
        rcases hk with hk | rfl | rfl
        · exact .inl hk
        · exact .inr (by omega)
        · exact .inr (Nat.le_refl _)
      · intro k hk
        rcases hO k ((e1 k).2 (.inl hk)) with (h | rfl | rfl) | h
        · exact .inl h
        · exact .inr (by omega)
        · exact .inr (Nat.le_refl _)
        · exact .inr (Nat.le_trans hb1.size h)
end Go.Proofs.YtdceechakocgfaaDoor
