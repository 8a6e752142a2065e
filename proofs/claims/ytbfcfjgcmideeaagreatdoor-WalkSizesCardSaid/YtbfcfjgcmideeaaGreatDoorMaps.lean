/- A map that the call has made: what it says of each key; any program. -/
import Derived.Test.YtbfcfjgcmideeaaGreatDoorB1
import Derived.Maps.Own
import Derived.DeepKeys4
import Derived.RangeFuncRecord
namespace Go.Proofs.YtbfcfjgcmideeaaGreatDoor
open Go.RowKit
open Go.Maps (Keyed)
theorem below_over {S : Nat → Prop} {W w w' : World} {B : Nat} (h : Below B W w) (ht : Turned S w w') (hs : ∀ k, k < B → ¬ S k) (hB : B ≤ w.heap.size) : Below B W w' :=
  ⟨ht.os.trans h.os, ht.tape.trans h.tape, ht.output.trans h.output, Nat.le_trans h.size ht.size, fun k hk => (ht.block k (Nat.lt_of_lt_of_le hk hB) (hs k hk)).trans (h.block k hk)⟩
/-- Block b is a map that says F. -/
def MapAt (P : Program) (k : TypeId) (w : World) (b : Nat) (F : Value → Option Value) : Prop :=
  ∃ es clock, w.heap[b]? = some (.map es clock) ∧ (∀ e ∈ es.toList, ∃ l, keyOf P k e.key = some l) ∧ (es.toList.Pairwise fun x y => x.key ≠ y.key) ∧ (∀ e ∈ es.toList, F e.key = some e.val) ∧ ∀ key v, F key = some v → ∃ e ∈ es.toList, e.key = key
theorem MapAt.made (P : Program) (k : TypeId) (w : World) : MapAt P k (w.alloc (.map #[] 0)) w.heap.size (fun _ => none) :=
  ⟨#[], 0, heap_alloc_new w _, by simp, by simp, by simp, by simp⟩
theorem MapAt.lt {P : Program} {k : TypeId} {w : World} {b : Nat} {F : Value → Option Value} (h : MapAt P k w b F) : b < w.heap.size := by
  obtain ⟨es, clock, h1, -⟩ := h
  exact (Array.getElem?_eq_some_iff.1 h1).1
theorem MapAt.turned {S : Nat → Prop} {P : Program} {k : TypeId} {w w' : World} {b : Nat} {F : Value → Option Value} (h : MapAt P k w b F) (ht : Turned S w w') (hn : ¬ S b) : MapAt P k w' b F := by
  have hl := h.lt
  obtain ⟨es, clock, h1, h2⟩ := h
  exact ⟨es, clock, (ht.block b hl hn).trans h1, h2⟩
theorem MapAt.keep {P : Program} {k : TypeId} {w w' : World} {b : Nat} {F : Value → Option Value} (h : MapAt P k w b F) (hb : Below w.heap.size w w') : MapAt P k w' b F := h.turned (turned_below (S := fun _ => False) hb) fun h => h
theorem run_getObj_map {P : Program} {w : World} {b : Nat} {es : Array MapEntry} {c : Nat} (h : w.heap[b]? = some (.map es c)) : (getObj b).run P w = .ok (.map es c) w := by simp [getObj, Sem.run, h]
theorem run_setObj_map {P : Program} {w : World} {b : Nat} {es : Array MapEntry} {c : Nat} (o' : Obj) (h : w.heap[b]? = some (.map es c)) : (setObj b o').run P w = .ok () (w.putObj b o') := by simp [setObj, Sem.run, h, World.putObj]
theorem keys_apart {l : List MapEntry} (h : l.Pairwise fun x y => x.key ≠ y.key) {i j : Nat} {a b : MapEntry} (hi : l[i]? = some a) (hj : l[j]? = some b) (hne : i ≠ j) : a.key ≠ b.key := by
  obtain ⟨hi', rfl⟩ := List.getElem?_eq_some_iff.1 hi
  obtain ⟨hj', rfl⟩ := List.getElem?_eq_some_iff.1 hj
  have hp := List.pairwise_iff_getElem.1 h
  rcases Nat.lt_or_gt_of_ne hne with h1 | h1
  · exact hp i j hi' hj' h1
  · exact fun e => hp j i hj' hi' h1 e.symm
theorem MapAt.lookup {P : Program} {k : TypeId} {w : World} {b : Nat} {F : Value → Option Value} (h : MapAt P k w b F) (K : Keyed P k) {t e : TypeId} (ht : P.underlying t = some (.map k e)) {x : Value} {l : Lit} (hx : keyOf P k x = some l) {z : Value} (hz : (zeroValue e).run P w = .ok z w) (ok : Bool) :
    (Instr.lookup t (.map (some b)) x ok).run P w = .ok (if ok = true then .tuple #[(F x).getD z, .bool (F x).isSome] else (F x).getD z) w := by
  obtain ⟨es, clock, h1, h2, h3, h4, h5⟩ := h
  have hc := K.check w es.isEmpty hx
  rcases K.find w hx es.toList h2 with ⟨hf, hn⟩ | ⟨j, e0, hf, hj, he⟩
  · have hF : F x = none := by
      cases hF : F x with
      | none => rfl
      | some v =>
        obtain ⟨e0, h6, h7⟩ := h5 x v hF
        exact absurd h7 (hn e0 h6)
    cases ok <;> simp [Instr.lookup, run_underlying ht, run_getObj_map h1, hc, hf, hz, hF, Result.andThen]
  · have hF : F x = some e0.val := by rw [← he]; exact h4 e0 (List.mem_of_getElem? hj)
    cases ok <;> simp [Instr.lookup, run_underlying ht, run_getObj_map h1, hc, hf, hF, Result.andThen]
noncomputable def updF (F : Value → Option Value) (x : Value) (v : Option Value) : Value → Option Value := fun y => @ite _ (y = x) (Classical.propDecidable _) v (F y)
theorem updF_same (F : Value → Option Value) (x : Value) (v : Option Value) : updF F x v x = v := by unfold updF; rw [if_pos rfl]
theorem updF_ne (F : Value → Option Value) {x y : Value} (v : Option Value) (h : y ≠ x) : updF F x v y = F y := by unfold updF; rw [if_neg h]
theorem MapAt.update {P : Program} {k : TypeId} {w : World} {b : Nat} {F : Value → Option Value} (h : MapAt P k w b F) (K : Keyed P k) {t e : TypeId} (ht : P.underlying t = some (.map k e)) {x : Value} {l : Lit} (hx : keyOf P k x = some l) (v : Value) :
    ∃ w', (Instr.mapUpdate t (.map (some b)) x v).run P w = .ok () w' ∧ MapAt P k w' b (updF F x (some v)) ∧ Turned (fun j => j = b) w w' := by
  obtain ⟨es, clock, h1, h2, h3, h4, h5⟩ := h
  have hlt := (Array.getElem?_eq_some_iff.1 h1).1
  have hc := K.check w false hx
  have hT : ∀ o : Obj, Turned (fun j => j = b) w (w.putObj b o) := fun o => ⟨rfl, rfl, rfl, Nat.le_of_eq (by simp [World.putObj]), fun j _ hn => World.putObj_heap_other hn⟩
  rcases K.find w hx es.toList h2 with ⟨hf, hn⟩ | ⟨j, e0, hf, hj, he⟩
  · refine ⟨w.putObj b (.map (es.push { key := x, val := v, born := clock }) (clock + 1)), by simp [Instr.mapUpdate, run_underlying ht, run_getObj_map h1, hc, hf, run_setObj_map _ h1, Result.andThen], ⟨_, _, World.putObj_heap_same hlt, ?_, ?_, ?_, ?_⟩, hT _⟩
    · intro e he
      simp only [Array.toList_push, List.mem_append, List.mem_singleton] at he
      rcases he with he | rfl
      · exact h2 e he
      · exact ⟨l, hx⟩
    · simp only [Array.toList_push, List.pairwise_append, List.pairwise_cons, List.not_mem_nil, false_implies, implies_true, List.Pairwise.nil, and_true, List.mem_singleton, forall_eq, true_and]
      exact ⟨h3, fun a ha => hn a ha⟩
    · intro e he
      simp only [Array.toList_push, List.mem_append, List.mem_singleton] at he
      rcases he with he | rfl
      · rw [updF_ne _ _ (hn e he)]; exact h4 e he
      · exact updF_same _ _ _
    · intro key v' hv
      by_cases hk : key = x
      · exact ⟨{ key := x, val := v, born := clock }, by simp, hk.symm⟩
      · rw [updF_ne _ _ hk] at hv
        obtain ⟨e, h6, h7⟩ := h5 key v' hv
        exact ⟨e, by simp [h6], h7⟩
  · have hj' : es[j]? = some e0 := by rw [← Array.getElem?_toList]; exact hj
    have hst := K.stays w hx
    have hm : ∀ i, (es.modify j fun e => { e with key := x, val := v }).toList[i]? = if j = i then es.toList[i]?.map (fun e => { e with key := x, val := v }) else es.toList[i]? := fun i => by
      rw [Array.getElem?_toList, Array.getElem?_modify, Array.getElem?_toList]
    refine ⟨w.putObj b (.map (es.modify j fun e => { e with key := x, val := v }) clock), by simp [Instr.mapUpdate, run_underlying ht, run_getObj_map h1, hc, hf, hj', he, hst, run_setObj_map _ h1, Result.andThen], ⟨_, _, World.putObj_heap_same hlt, ?_, ?_, ?_, ?_⟩, hT _⟩
    · intro e hmem
      obtain ⟨i, hi⟩ := List.getElem?_of_mem hmem
      rw [hm] at hi
      split at hi
      · obtain ⟨e1, h6, rfl⟩ := Option.map_eq_some_iff.1 hi
        exact ⟨l, hx⟩
      · exact h2 e (List.mem_of_getElem? hi)
    · have hk : ((es.modify j fun e => { e with key := x, val := v }).toList.map (·.key)) = es.toList.map (·.key) := by
        apply List.ext_getElem?
        intro i
        rw [List.getElem?_map, List.getElem?_map, hm]
        split
        · rename_i hij
          subst hij
          rw [hj]
          simp [he]
        · rfl
      have h6 : (es.toList.map (·.key)).Pairwise (· ≠ ·) := by rw [List.pairwise_map]; exact h3
      rw [← hk, List.pairwise_map] at h6
      exact h6
    · intro e hmem
      obtain ⟨i, hi⟩ := List.getElem?_of_mem hmem
      rw [hm] at hi
      split at hi
      · obtain ⟨e1, h6, rfl⟩ := Option.map_eq_some_iff.1 hi
        exact updF_same _ _ _
      · rename_i hij
        rw [updF_ne _ _ (by rw [← he]; exact keys_apart h3 hi hj (fun e => hij e.symm))]
        exact h4 e (List.mem_of_getElem? hi)
    · intro key v' hv
      by_cases hk : key = x
      · refine ⟨{ e0 with key := x, val := v }, List.mem_of_getElem? (i := j) ?_, hk.symm⟩
        rw [hm, if_pos rfl, hj]; rfl
      · rw [updF_ne _ _ hk] at hv
        obtain ⟨e, h6, h7⟩ := h5 key v' hv
        obtain ⟨i, hi⟩ := List.getElem?_of_mem h6
        refine ⟨e, List.mem_of_getElem? (i := i) ?_, h7⟩
        rw [hm, if_neg (fun hij => by subst hij; rw [hj] at hi; cases hi; exact hk (h7.symm.trans he))]; exact hi
theorem MapAt.delete {P : Program} {k : TypeId} {w : World} {b : Nat} {F : Value → Option Value} (h : MapAt P k w b F) (K : Keyed P k) {t e : TypeId} (ht : P.underlying t = some (.map k e)) {x : Value} {l : Lit} (hx : keyOf P k x = some l) (t' ty : TypeId) :
    ∃ w', (Builtin.delete_ #[t, t'] ty #[.map (some b), x]).run P w = .ok (.tuple #[]) w' ∧ MapAt P k w' b (updF F x none) ∧ Turned (fun j => j = b) w w' := by
  obtain ⟨es, clock, h1, h2, h3, h4, h5⟩ := h
  have hlt := (Array.getElem?_eq_some_iff.1 h1).1
  have hc := K.check w es.isEmpty hx
  have hT : ∀ o : Obj, Turned (fun j => j = b) w (w.putObj b o) := fun o => ⟨rfl, rfl, rfl, Nat.le_of_eq (by simp [World.putObj]), fun j _ hn => World.putObj_heap_other hn⟩
  rcases K.find w hx es.toList h2 with ⟨hf, hn⟩ | ⟨j, e0, hf, hj, he⟩
  · refine ⟨w.putObj b (.map es clock), by simp [Builtin.delete_, run_underlying ht, run_getObj_map h1, hc, hf, run_setObj_map _ h1, Result.andThen], ⟨_, _, World.putObj_heap_same hlt, h2, h3, ?_, ?_⟩, hT _⟩
    · intro e he
      rw [updF_ne _ _ (hn e he)]; exact h4 e he
    · intro key v hv
      by_cases hk : key = x
      · rw [hk, updF_same] at hv; cases hv
      · rw [updF_ne _ _ hk] at hv; exact h5 key v hv
  · have hm : ∀ e, e ∈ (es.eraseIdxIfInBounds j).toList ↔ ∃ i, i ≠ j ∧ es.toList[i]? = some e := fun e => by
      have hjl : j < es.size := by have := (List.getElem?_eq_some_iff.1 hj).1; simpa using this
      rw [Array.eraseIdxIfInBounds, dif_pos hjl, Array.toList_eraseIdx, List.mem_eraseIdx_iff_getElem?]
    refine ⟨w.putObj b (.map (es.eraseIdxIfInBounds j) clock), by simp [Builtin.delete_, run_underlying ht, run_getObj_map h1, hc, hf, run_setObj_map _ h1, Result.andThen], ⟨_, _, World.putObj_heap_same hlt, ?_, ?_, ?_, ?_⟩, hT _⟩
    · intro e hmem
      obtain ⟨i, -, hi⟩ := (hm e).1 hmem
      exact h2 e (List.mem_of_getElem? hi)
    · have hjl : j < es.size := by have := (List.getElem?_eq_some_iff.1 hj).1; simpa using this
      rw [Array.eraseIdxIfInBounds, dif_pos hjl, Array.toList_eraseIdx]
      exact h3.sublist (List.eraseIdx_sublist _ _)
    · intro e hmem
      obtain ⟨i, hij, hi⟩ := (hm e).1 hmem
      rw [updF_ne _ _ (by rw [← he]; exact keys_apart h3 hi hj hij)]
      exact h4 e (List.mem_of_getElem? hi)
    · intro key v hv
      by_cases hk : key = x
      · rw [hk, updF_same] at hv; cases hv
      · rw [updF_ne _ _ hk] at hv
        obtain ⟨e, h6, h7⟩ := h5 key v hv
        obtain ⟨i, hi⟩ := List.getElem?_of_mem h6
        exact ⟨e, (hm e).2 ⟨i, fun hij => by subst hij; rw [hj] at hi; cases hi; exact hk (h7.symm.trans he), hi⟩, h7⟩
end Go.Proofs.YtbfcfjgcmideeaaGreatDoor
