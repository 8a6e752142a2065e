/- walk.Sizes: what it tells, plain; what its walk keeps. -/
/- The document's sizes of a walk's steps, plain: they are what walk.Sizes tells. -/
/- walk.Sizes: what its memory holds as it goes. -/
import Derived.Test.YtbfcfjgcmideeaaGreatDoorS1
import Derived.Test.YtbfcfjgcmideeaaGreatDoorW6
import Derived.Test.YtbfcfjgcmideeaaGreatDoorMaps
import Derived.Test.YtbfcfjgcmideeaaGreatDoorB1
import Derived.Test.YtbfcfjgcmideeaaGreatDoorM8
import Derived.Test.YtbfcfjgcmideeaaGreatDoorListed
namespace Go.Proofs.YtbfcfjgcmideeaaGreatDoor
open Go.RowKit
open Go.Maps (Keyed)
structure SzSt where
  sums : List Int
  out : List Int
  seen : Int → Int
  opn : ByteArray × Int × Int → Option Nat
def sizeN (x : TNode) : Int := ((x.data.length + x.target.size : Nat) : Int) + (x.list.length : Nat)
/-- What is told of one more step, all that went ahead of it being told. -/
def szStep (t : TTree) (s : SzSt) (x : TStep) : SzSt :=
  let cur := s.sums.getD s.out.length 0
  if x.node < 1 ∨ (t.nodes.length : Int) ≤ x.node ∨ (t.at x.node).kind = 0 then { s with sums := s.sums ++ [cur], out := s.out ++ [0] }
  else
    let c := s.seen x.node + 1
    let sn := fun n => if n = x.node then c else s.seen n
    if (t.at x.node).kind ≠ 2 then
      if c = 1 then { s with seen := sn, sums := s.sums ++ [cur + sizeN (t.at x.node)], out := s.out ++ [sizeN (t.at x.node)] }
      else { s with seen := sn, sums := s.sums ++ [cur], out := s.out ++ [0] }
    else if x.after = false then { seen := sn, opn := fun k => if k = (x.path, x.node, x.depth) then some s.out.length else s.opn k, sums := s.sums ++ [cur], out := s.out ++ [0] }
    else match s.opn (x.path, x.node, x.depth) with
      | some j => { seen := sn, opn := fun k => if k = (x.path, x.node, x.depth) then none else s.opn k, sums := s.sums ++ [cur], out := s.out ++ [cur - s.sums.getD j 0] }
      | none => { s with seen := sn, sums := s.sums ++ [cur], out := s.out ++ [0] }
def szInit : SzSt := ⟨[0], [], fun _ => 0, fun _ => none⟩
def szRun (t : TTree) (l : List TStep) : SzSt := l.foldl (szStep t) szInit
noncomputable def szOut (t : TTree) (l : List TStep) : List Int := if treeOK t = true then (szRun t l).out else List.replicate l.length 0
theorem szStep_len (t : TTree) (s : SzSt) (x : TStep) : (szStep t s x).out.length = s.out.length + 1 ∧ (szStep t s x).sums.length = s.sums.length + 1 := by
  unfold szStep
  dsimp only
  split
  · simp
  · split
    · split <;> simp
    · split
      · simp
      · split <;> simp
theorem szFold_len (t : TTree) : ∀ (l : List TStep) (s : SzSt), (l.foldl (szStep t) s).out.length = s.out.length + l.length ∧ (l.foldl (szStep t) s).sums.length = s.sums.length + l.length
  | [], s => by simp
  | x :: l, s => by
    have h1 := szStep_len t s x
    have h2 := szFold_len t l (szStep t s x)
    simp only [List.foldl_cons, List.length_cons]
    omega
theorem szRun_len (t : TTree) (l : List TStep) : (szRun t l).out.length = l.length ∧ (szRun t l).sums.length = l.length + 1 := by
  have h := szFold_len t l szInit
  simp only [szInit, List.length_nil, List.length_cons] at h
  unfold szRun szInit
  omega
theorem szRun_snoc (t : TTree) (l : List TStep) (x : TStep) : szRun t (l ++ [x]) = szStep t (szRun t l) x := by simp [szRun]
/-- The numbers stay small; what is open was gone by. -/
structure SzFine (s : SzSt) (M : Int) : Prop where
  sums : ∀ x ∈ s.sums, 0 ≤ x ∧ x ≤ s.out.length * M
  seen : ∀ n, 0 ≤ s.seen n ∧ s.seen n ≤ s.out.length
  opn : ∀ k j, s.opn k = some j → j < s.out.length
  len : s.sums.length = s.out.length + 1
theorem SzFine.cur {s : SzSt} {M : Int} (h : SzFine s M) (j : Nat) (hj : j ≤ s.out.length) : 0 ≤ s.sums.getD j 0 ∧ s.sums.getD j 0 ≤ s.out.length * M := by
  have hl := h.len
  rw [List.getD_eq_getElem?_getD, List.getElem?_eq_getElem (by omega)]
  exact h.sums _ (List.getElem_mem _)
theorem SzFine.step {t : TTree} {s : SzSt} {M : Int} (h : SzFine s M) (hM : 0 ≤ M) (hs : ∀ n, 0 ≤ sizeN (t.at n) ∧ sizeN (t.at n) ≤ M) (x : TStep) : SzFine (szStep t s x) M := by
  have hc := h.cur s.out.length (Nat.le_refl _)
  have hl := h.len
  have hsz := hs x.node
  have hse := h.seen x.node
  have hmul : ((s.out.length + 1 : Nat) : Int) * M = (s.out.length : Int) * M + M := by push_cast; rw [Int.add_mul, Int.one_mul]
  have hsum : ∀ (v : Int), 0 ≤ v → v ≤ (s.out.length : Int) * M + M → ∀ y ∈ s.sums ++ [v], 0 ≤ y ∧ y ≤ ((s.out.length + 1 : Nat) : Int) * M := fun v h0 h1 y hy => by
    rw [hmul]
    rcases List.mem_append.1 hy with hy | hy
    · have := h.sums y hy; omega
    · rw [List.mem_singleton.1 hy]; exact ⟨h0, h1⟩
  have hopn : ∀ k j, s.opn k = some j → j < s.out.length + 1 := fun k j hk => by have := h.opn k j hk; omega
  have hseen : ∀ n, 0 ≤ (if n = x.node then s.seen x.node + 1 else s.seen n) ∧ (if n = x.node then s.seen x.node + 1 else s.seen n) ≤ ((s.out.length + 1 : Nat) : Int) := fun n => by
    have := h.seen n
    split <;> push_cast <;> omega
  have hseen0 : ∀ n, 0 ≤ s.seen n ∧ s.seen n ≤ ((s.out.length + 1 : Nat) : Int) := fun n => by have := h.seen n; push_cast; omega
  unfold szStep
  dsimp only
  split
  · exact ⟨by simpa using hsum _ hc.1 (by omega), by simpa using hseen0, by simpa using hopn, by simp [hl]⟩
  · split
    · split
      · exact ⟨by simpa using hsum (s.sums.getD s.out.length 0 + sizeN (t.at x.node)) (by omega) (by omega), by simpa using hseen, by simpa using hopn, by simp [hl]⟩
      · exact ⟨by simpa using hsum _ hc.1 (by omega), by simpa using hseen, by simpa using hopn, by simp [hl]⟩
    · split
      · refine ⟨by simpa using hsum _ hc.1 (by omega), by simpa using hseen, fun k j hk => ?_, by simp [hl]⟩
        dsimp only at hk
        split at hk
        · cases hk; simp
        · simpa using hopn k j hk
      · split
        · refine ⟨by simpa using hsum _ hc.1 (by omega), by simpa using hseen, fun k j hk => ?_, by simp [hl]⟩
          dsimp only at hk
          split at hk
          · cases hk
          · simpa using hopn k j hk
        · exact ⟨by simpa using hsum _ hc.1 (by omega), by simpa using hseen, by simpa using hopn, by simp [hl]⟩
theorem szFine_init (M : Int) : SzFine szInit M := ⟨by simp [szInit], by simp [szInit], by simp [szInit], by simp [szInit]⟩
theorem szFine_run {t : TTree} {M : Int} (hM : 0 ≤ M) (hs : ∀ n, 0 ≤ sizeN (t.at n) ∧ sizeN (t.at n) ≤ M) (l : List TStep) : SzFine (szRun t l) M := by
  have : ∀ (l : List TStep) (s : SzSt), SzFine s M → SzFine (l.foldl (szStep t) s) M := by
    intro l
    induction l with
    | nil => intro s h; exact h
    | cons x l ih => intro s h; exact ih _ (h.step hM hs x)
  exact this l _ (szFine_init M)
def placeV (k : ByteArray × Int × Int) : Value := .agg #[.string k.1, .int .i64 k.2.1, .int .i64 k.2.2]
theorem placeV_inj {a b : ByteArray × Int × Int} (h : placeV a = placeV b) : a = b := by
  unfold placeV at h
  simp at h
  obtain ⟨a1, a2, a3⟩ := a
  obtain ⟨b1, b2, b3⟩ := b
  simp at h
  simp [h]
theorem int_law : Keyed Tryz.prog 3 := Go.Maps.int_keyed Tryz.underlying3
theorem place_law : Keyed Tryz.prog 136 := Keyed.of_law (deep_law_laid laid_out (m := 2) (by omega) (of_decide_eq_true (by kernel_rfl)) (by kernel_rfl) (by rw [Tryz.underlying136]))
theorem place_key (k : ByteArray × Int × Int) (h1 : k.1.size ≤ maxLen) (h2 : (Lit.int .i64 k.2.1).wf = true) (h3 : (Lit.int .i64 k.2.2).wf = true) : ∃ l, keyOf Tryz.prog 136 (placeV k) = some l := by
  have hk : Tryz.prog.keyType 136 = true := by kernel_rfl
  have hc : Tryz.prog.cellsOf 136 = 3 := by kernel_rfl
  have hc1 : Tryz.prog.cellsOf 9 = 1 := by kernel_rfl
  have hc2 : Tryz.prog.cellsOf 3 = 1 := by kernel_rfl
  have hz : Tryz.prog.types.size = (Tryz.prog.types.size - 1) + 1 := by kernel_rfl
  have hl : ∀ n, (Tryz.prog.keyLits (n + 1 + 1) 136 (placeV k).cells.toList).isSome = true := fun n => by
    simp [Program.keyLits, placeV, Value.cells, Tryz.underlying136, Tryz.underlying9, Tryz.underlying3, hc, hc1, hc2, h1, h2, h3]
  have hl2 := hl (Tryz.prog.types.size - 1)
  rw [← hz] at hl2
  obtain ⟨ls, hls⟩ := Option.isSome_iff_exists.1 hl2
  unfold keyOf
  rw [Tryz.underlying136]
  simp only [hk, Bool.true_and]
  have hf : (placeV k).formed Tryz.prog 136 = true := by simp [Value.formed, placeV, Tryz.underlying136, hc]
  rw [hf, if_pos rfl, hls]
  exact ⟨_, rfl⟩
end Go.Proofs.YtbfcfjgcmideeaaGreatDoor
namespace Go.Proofs.YtbfcfjgcmideeaaGreatDoor
open Go.RowKit
def goodN (t : TTree) (n : Int) : Prop := ¬ (n < 1 ∨ (t.nodes.length : Int) ≤ n ∨ (t.at n).kind = 0)
instance (t : TTree) (n : Int) : Decidable (goodN t n) := by unfold goodN; infer_instance
def likeS (y x : TStep) : Prop := y.node = x.node ∧ y.path = x.path ∧ y.depth = x.depth
instance (y x : TStep) : Decidable (likeS y x) := by unfold likeS; infer_instance
/-- Where the step that is open at a place was come to, of the first k. -/
def refFrom (l : List TStep) (x : TStep) : Nat → Option Nat
  | 0 => none
  | k + 1 => match l[k]? with
    | some y => if likeS y x then (if y.after = true then none else some k) else refFrom l x k
    | none => refFrom l x k
def refPart (t : TTree) (l : List TStep) (out : List Int) (k : Nat) : Int :=
  match l[k]? with
  | some y => if 1 ≤ y.node ∧ y.node < (t.nodes.length : Int) ∧ (t.at y.node).kind ≠ 2 then out.getD k 0 else 0
  | none => 0
def refSum (t : TTree) (l : List TStep) (out : List Int) (j : Nat) : Nat → Int
  | 0 => 0
  | n + 1 => refSum t l out j n + refPart t l out (j + n)
def refVal (t : TTree) (l : List TStep) (out : List Int) (i : Nat) (x : TStep) : Int :=
  if x.node < 1 ∨ (t.nodes.length : Int) ≤ x.node ∨ (t.at x.node).kind = 0 then 0
  else if (t.at x.node).kind ≠ 2 then (if ∀ y ∈ l.take i, y.node ≠ x.node then sizeN (t.at x.node) else 0)
  else if x.after = true then (match refFrom l x i with
    | none => 0
    | some j => refSum t l out j (i - j))
  else 0
theorem refFrom_congr {l l' : List TStep} (x : TStep) : ∀ {k : Nat}, (∀ j, j < k → l[j]? = l'[j]?) → refFrom l x k = refFrom l' x k
  | 0, _ => rfl
  | k + 1, h => by
    unfold refFrom
    rw [h k (by omega), refFrom_congr x (k := k) fun j hj => h j (by omega)]
theorem refFrom_lt {l : List TStep} (x : TStep) : ∀ {k j : Nat}, refFrom l x k = some j → j < k
  | 0, j, h => by simp [refFrom] at h
  | k + 1, j, h => by
    unfold refFrom at h
    split at h
    · split at h
      · split at h
        · cases h
        · cases h; omega
      · have := refFrom_lt x h; omega
    · have := refFrom_lt x h; omega
theorem refPart_congr (t : TTree) {l l' : List TStep} {o o' : List Int} {k : Nat} (h : l[k]? = l'[k]?) (ho : o.getD k 0 = o'.getD k 0) : refPart t l o k = refPart t l' o' k := by
  unfold refPart
  rw [h, ho]
theorem refSum_congr (t : TTree) {l l' : List TStep} {o o' : List Int} (j : Nat) : ∀ {n : Nat}, (∀ k, k < j + n → l[k]? = l'[k]? ∧ o.getD k 0 = o'.getD k 0) → refSum t l o j n = refSum t l' o' j n
  | 0, _ => rfl
  | n + 1, h => by
    unfold refSum
    rw [refSum_congr t j (n := n) fun k hk => h k (by omega), refPart_congr t (h (j + n) (by omega)).1 (h (j + n) (by omega)).2]
structure SzI (t : TTree) (P : List TStep) (s : SzSt) : Prop where
  out : s.out.length = P.length
  len : s.sums.length = P.length + 1
  seen : ∀ n, goodN t n → 0 ≤ s.seen n ∧ (s.seen n = 0 ↔ ∀ y ∈ P, y.node ≠ n)
  opn : ∀ x : TStep, goodN t x.node → (t.at x.node).kind = 2 → s.opn (x.path, x.node, x.depth) = refFrom P x P.length
  sums : ∀ k, k < P.length → s.sums.getD (k + 1) 0 = s.sums.getD k 0 + refPart t P s.out k
theorem SzI.sum {t : TTree} {P : List TStep} {s : SzSt} (h : SzI t P s) (j : Nat) : ∀ n, j + n ≤ P.length → s.sums.getD (j + n) 0 = s.sums.getD j 0 + refSum t P s.out j n
  | 0, _ => by simp [refSum]
  | n + 1, hn => by
    have h1 := h.sum j n (by omega)
    have h2 := h.sums (j + n) (by omega)
    unfold refSum
    rw [← Nat.add_assoc, h2, h1]
    omega
theorem rs_app {l : List Int} {v d : Int} {k : Nat} (h : k < l.length) : (l ++ [v]).getD k d = l.getD k d := by
  rw [List.getD_eq_getElem?_getD, List.getD_eq_getElem?_getD, List.getElem?_append_left h]
theorem rs_end {l : List Int} {v d : Int} : (l ++ [v]).getD l.length d = v := by
  rw [List.getD_eq_getElem?_getD, List.getElem?_append_right (Nat.le_refl _)]; simp
/-- The value that one more step is told of. -/
theorem szStep_val {t : TTree} {P : List TStep} {s : SzSt} (h : SzI t P s) (x : TStep) : (szStep t s x).out = s.out ++ [refVal t P s.out P.length x] := by
  have hsum := h.sum
  unfold szStep refVal
  dsimp only
  rw [List.take_length, h.out]
  by_cases h1 : x.node < 1 ∨ (t.nodes.length : Int) ≤ x.node ∨ (t.at x.node).kind = 0
  · rw [if_pos h1, if_pos h1]
  · rw [if_neg h1, if_neg h1]
    obtain ⟨h2, h3⟩ := h.seen x.node h1
    by_cases h4 : (t.at x.node).kind ≠ 2
    · rw [if_pos h4, if_pos h4]
      by_cases h5 : ∀ y ∈ P, y.node ≠ x.node
      · rw [if_pos h5, if_pos (by rw [h3.2 h5]; rfl)]
      · rw [if_neg h5, if_neg (fun e => h5 (h3.1 (by omega)))]
    · rw [if_neg h4, if_neg h4]
      have h4' : (t.at x.node).kind = 2 := Decidable.of_not_not h4
      by_cases h5 : x.after = true
      · rw [if_pos h5, if_neg (by rw [h5]; decide), h.opn x h1 h4']
        cases hf : refFrom P x P.length with
        | none => rfl
        | some j =>
          have hj := refFrom_lt x hf
          have := hsum j (P.length - j) (by omega)
          rw [show j + (P.length - j) = P.length by omega] at this
          dsimp only
          rw [this]
          congr 2
          omega
      · rw [if_neg h5, if_pos (by simpa using h5)]
theorem SzI.start (t : TTree) : SzI t [] szInit := ⟨rfl, rfl, fun n _ => ⟨by simp [szInit], by simp [szInit]⟩, fun x _ _ => rfl, fun k hk => absurd hk (by simp)⟩
theorem SzI.step {t : TTree} {P : List TStep} {s : SzSt} (h : SzI t P s) (x : TStep) : SzI t (P ++ [x]) (szStep t s x) := by
  have hval := szStep_val h x
  have hlen := szStep_len t s x
  have hl : P.length < (P ++ [x]).length := by simp
  have hP : ∀ j, j < P.length → (P ++ [x])[j]? = P[j]? := fun j hj => List.getElem?_append_left hj
  have hx : (P ++ [x])[P.length]? = some x := by simp
  have hseen : ∀ n, goodN t n → (szStep t s x).seen n = if goodN t x.node ∧ n = x.node then s.seen n + 1 else s.seen n := by
    intro n hn
    unfold szStep goodN
    dsimp only
    by_cases h1 : x.node < 1 ∨ (t.nodes.length : Int) ≤ x.node ∨ (t.at x.node).kind = 0
    · rw [if_pos h1, if_neg (fun a => a.1 h1)]
    · rw [if_neg h1]
      have hif : (if n = x.node then s.seen x.node + 1 else s.seen n) = if (¬ (x.node < 1 ∨ (t.nodes.length : Int) ≤ x.node ∨ (t.at x.node).kind = 0)) ∧ n = x.node then s.seen n + 1 else s.seen n := by
        by_cases e : n = x.node
        · rw [if_pos e, if_pos ⟨h1, e⟩, e]
        · rw [if_neg e, if_neg (fun a => e a.2)]
      split
      · split <;> exact hif
      · split
        · exact hif
        · split <;> exact hif
  have hopn : ∀ y : TStep, goodN t y.node → (t.at y.node).kind = 2 → (szStep t s x).opn (y.path, y.node, y.depth) = if likeS x y then (if x.after = true then none else some P.length) else s.opn (y.path, y.node, y.depth) := by
    intro y hy hk
    have hkey : (y.path, y.node, y.depth) = (x.path, x.node, x.depth) ↔ likeS x y := by
      unfold likeS
      constructor
      · intro e; simp at e; exact ⟨e.2.1.symm, e.1.symm, e.2.2.symm⟩
      · rintro ⟨a, b, c⟩; rw [a, b, c]
    unfold szStep
    dsimp only
    by_cases h1 : x.node < 1 ∨ (t.nodes.length : Int) ≤ x.node ∨ (t.at x.node).kind = 0
    · rw [if_pos h1, if_neg (fun a => hy (by rw [← a.1]; exact h1))]
    · rw [if_neg h1]
      by_cases h4 : (t.at x.node).kind ≠ 2
      · rw [if_pos h4, if_neg (c := likeS x y) (fun a => h4 (by rw [a.1]; exact hk))]
        split <;> rfl
      · rw [if_neg h4]
        by_cases h5 : x.after = true
        · rw [if_neg (by rw [h5]; decide), h5, if_pos rfl]
          cases ho : s.opn (x.path, x.node, x.depth) with
          | none =>
            dsimp only
            by_cases e : likeS x y
            · rw [if_pos e, hkey.2 e, ho]
            · rw [if_neg e]
          | some j =>
            dsimp only
            by_cases e : likeS x y
            · rw [if_pos e, if_pos (hkey.2 e)]
            · rw [if_neg e, if_neg (fun a => e (hkey.1 a))]
        · rw [if_pos (by simpa using h5), if_neg h5]
          dsimp only
          by_cases e : likeS x y
          · rw [if_pos e, if_pos (hkey.2 e), h.out]
          · rw [if_neg e, if_neg (fun a => e (hkey.1 a))]
  have hsums : (szStep t s x).sums = s.sums ++ [s.sums.getD P.length 0 + refPart t (P ++ [x]) (szStep t s x).out P.length] := by
    have hpart : refPart t (P ++ [x]) (szStep t s x).out P.length = if 1 ≤ x.node ∧ x.node < (t.nodes.length : Int) ∧ (t.at x.node).kind ≠ 2 then refVal t P s.out P.length x else 0 := by
      unfold refPart
      rw [hx]
      dsimp only
      rw [hval, ← h.out, rs_end]
    rw [hpart]
    unfold szStep refVal
    dsimp only
    rw [List.take_length, h.out]
    by_cases h1 : x.node < 1 ∨ (t.nodes.length : Int) ≤ x.node ∨ (t.at x.node).kind = 0
    · rw [if_pos h1, if_pos h1]
      simp
    · rw [if_neg h1, if_neg h1]
      obtain ⟨h2, h3⟩ := h.seen x.node h1
      by_cases h4 : (t.at x.node).kind ≠ 2
      · have h6 : 1 ≤ x.node ∧ x.node < (t.nodes.length : Int) ∧ (t.at x.node).kind ≠ 2 := ⟨by omega, by omega, h4⟩
        rw [if_pos h4, if_pos h4, if_pos h6]
        by_cases h5 : ∀ y ∈ P, y.node ≠ x.node
        · rw [if_pos h5, if_pos (by rw [h3.2 h5]; rfl)]
        · rw [if_neg h5, if_neg (fun e => h5 (h3.1 (by omega)))]
          simp
      · have h6 : ¬ (1 ≤ x.node ∧ x.node < (t.nodes.length : Int) ∧ (t.at x.node).kind ≠ 2) := fun a => h4 a.2.2
        rw [if_neg h4, if_neg h6]
        split
        · simp
        · split <;> simp
  refine ⟨by rw [hlen.1, h.out]; simp, by rw [hlen.2, h.len]; simp, fun n hn => ?_, fun y hy hk => ?_, fun k hk => ?_⟩
  · rw [hseen n hn]
    obtain ⟨h1, h2⟩ := h.seen n hn
    by_cases e : goodN t x.node ∧ n = x.node
    · rw [if_pos e]
      refine ⟨by omega, fun a => absurd a (by omega), fun a => absurd (a x (by simp)) (fun b => b e.2.symm)⟩
    · rw [if_neg e]
      have hne : x.node ≠ n := fun a => e ⟨by rw [a]; exact hn, a.symm⟩
      refine ⟨h1, fun a y hy => ?_, fun a => h2.2 fun y hy => a y (by simp [hy])⟩
      rcases List.mem_append.1 hy with hy | hy
      · exact h2.1 a y hy
      · rw [List.mem_singleton.1 hy]; exact hne
  · rw [hopn y hy hk, h.opn y hy hk, List.length_append, List.length_singleton]
    conv => rhs; unfold refFrom
    rw [hx]
    dsimp only
    rw [refFrom_congr (l := P ++ [x]) (l' := P) y hP]
  · rw [hsums]
    rw [List.length_append, List.length_singleton] at hk
    by_cases e : k = P.length
    · subst e
      rw [show P.length + 1 = s.sums.length from h.len.symm, rs_end, rs_app (by rw [h.len]; omega)]
    · rw [rs_app (by rw [h.len]; omega), rs_app (by rw [h.len]; omega), h.sums k (by omega)]
      congr 1
      refine refPart_congr t (hP k (by omega)).symm ?_
      rw [hval, rs_app (by rw [h.out]; omega)]
theorem szI_take (t : TTree) (l : List TStep) : ∀ n, n ≤ l.length → SzI t (l.take n) (szRun t (l.take n))
  | 0, _ => by rw [List.take_zero]; exact SzI.start t
  | n + 1, h => by
    have hx : l[n]? = some (l[n]'(by omega)) := List.getElem?_eq_getElem (by omega)
    rw [List.take_add_one, hx]
    have := (szI_take t l n (by omega)).step (l[n]'(by omega))
    rw [← szRun_snoc] at this
    exact this
/-- Round for round, the document tells the same. -/
theorem szRun_next (t : TTree) (l : List TStep) {i : Nat} {x : TStep} (hi : l[i]? = some x) : (szRun t (l.take (i + 1))).out = (szRun t (l.take i)).out ++ [refVal t l (szRun t (l.take i)).out i x] := by
  have hlt := (List.getElem?_eq_some_iff.1 hi).1
  have hI := szI_take t l i (by omega)
  rw [List.take_add_one, hi]
  show (szRun t (l.take i ++ [x])).out = _
  rw [szRun_snoc, szStep_val hI x]
  congr 2
  have hlen : (l.take i).length = i := by rw [List.length_take]; omega
  rw [hlen]
  have hP : ∀ j, j < i → (l.take i)[j]? = l[j]? := fun j hj => by rw [List.getElem?_take, if_pos hj]
  unfold refVal
  rw [List.take_take, Nat.min_self, refFrom_congr x hP]
  cases hf : refFrom l x i with
  | none => rfl
  | some j =>
    have := refFrom_lt x hf
    dsimp only
    rw [refSum_congr t (o' := (szRun t (l.take i)).out) j (n := i - j) fun k hk => ⟨hP k (by omega), rfl⟩]
end Go.Proofs.YtbfcfjgcmideeaaGreatDoor
namespace Go.Proofs.YtbfcfjgcmideeaaGreatDoor
open Go.RowKit
open Go.Maps (Keyed)
def StepsAt (w : World) (A : Option Addr) (l : List TStep) : Prop :=
  ∀ i x, l[i]? = some x → ∃ b o, A = some ⟨b, o, none⟩ ∧ w.cell? ⟨b, o + i * 4, none⟩ = some (.string x.path) ∧ w.cell? ⟨b, o + i * 4 + 1, none⟩ = some (.int .i64 x.node) ∧ w.cell? ⟨b, o + i * 4 + 2, none⟩ = some (.int .i64 x.depth) ∧ w.cell? ⟨b, o + i * 4 + 3, none⟩ = some (.bool x.after)
theorem StepsAt.keep {w w' : World} (h : Below w.heap.size w w') {A : Option Addr} {l : List TStep} (he : StepsAt w A l) : StepsAt w' A l := fun i x hi => by
  obtain ⟨b, o, hA, h0, h1, h2, h3⟩ := he i x hi
  exact ⟨b, o, hA, cell_keep h h0, cell_keep h h1, cell_keep h h2, cell_keep h h3⟩
def seenF (f : Int → Int) : Value → Option Value
  | .int .i64 n => if f n = 0 then none else some (.int .i64 (f n))
  | _ => none
theorem seenF_getD (f : Int → Int) (n : Int) : (seenF f (.int .i64 n)).getD (.int .i64 0) = .int .i64 (f n) := by
  simp only [seenF]
  by_cases h : f n = 0
  · rw [if_pos h, h]; rfl
  · rw [if_neg h]; rfl
theorem seenF_zero : seenF (fun _ => 0) = fun _ => none := by
  funext v
  unfold seenF
  split <;> simp
theorem seenF_upd (f : Int → Int) (n c : Int) (hc : c ≠ 0) : updF (seenF f) (.int .i64 n) (some (.int .i64 c)) = seenF (fun k => if k = n then c else f k) := by
  funext v
  by_cases hv : v = .int .i64 n
  · subst hv; rw [updF_same]; simp [seenF, hc]
  · rw [updF_ne _ _ hv]
    unfold seenF
    split
    · rename_i k
      have : k ≠ n := fun e => hv (by rw [e])
      simp [this]
    · rfl
noncomputable def opnF (f : ByteArray × Int × Int → Option Nat) : Value → Option Value := fun v => @dite _ (∃ k, v = placeV k) (Classical.propDecidable _) (fun h => (f h.choose).map fun j => .int .i64 (j : Nat)) fun _ => none
theorem opnF_at (f : ByteArray × Int × Int → Option Nat) (k : ByteArray × Int × Int) : opnF f (placeV k) = (f k).map fun j => Value.int .i64 (j : Nat) := by
  have h : ∃ k', placeV k = placeV k' := ⟨k, rfl⟩
  unfold opnF
  rw [dif_pos h, ← placeV_inj h.choose_spec]
theorem opnF_none : opnF (fun _ => none) = fun _ => none := by
  funext v
  unfold opnF
  split <;> rfl
theorem opnF_off (f : ByteArray × Int × Int → Option Nat) (v : Value) (h : ¬ ∃ k, v = placeV k) : opnF f v = none := by
  unfold opnF
  rw [dif_neg h]
theorem opnF_upd (f : ByteArray × Int × Int → Option Nat) (k : ByteArray × Int × Int) (j : Option Nat) : updF (opnF f) (placeV k) (j.map fun j => Value.int .i64 (j : Nat)) = opnF (fun k' => if k' = k then j else f k') := by
  funext v
  by_cases hv : ∃ k', v = placeV k'
  · obtain ⟨k', rfl⟩ := hv
    by_cases he : k' = k
    · subst he; rw [updF_same, opnF_at, if_pos rfl]
    · rw [updF_ne _ _ (fun e => he (placeV_inj e)), opnF_at, opnF_at, if_neg he]
  · rw [opnF_off _ _ hv, updF_ne _ _ (fun e => hv ⟨k, e⟩), opnF_off _ _ hv]
/-- All that a round may write. -/
def SzW (gO gS m1 m2 : Nat) : Nat → Prop := fun k => k = gO ∨ k = gS ∨ k = m1 ∨ k = m2
structure Z (w0 : World) (A : Option Addr) (N c : Nat) (now : Int) (gO gS m1 m2 : Nat) (o s : List Int) (f : Int → Int) (k : ByteArray × Int × Int → Option Nat) (w : World) : Prop where
  t0 : w.cell? ⟨w0.heap.size, 0, none⟩ = some (.slice A N c)
  t1 : w.cell? ⟨w0.heap.size, 1, none⟩ = some (.int .i64 now)
  out : IntRow w gO o
  sums : IntRow w gS s
  seen : MapAt Tryz.prog 3 w m1 (seenF f)
  opn : MapAt Tryz.prog 136 w m2 (opnF k)
  below : Below w0.heap.size w0 w
  ne : w0.heap.size < gO ∧ gO < gS ∧ gS < m1 ∧ m1 < m2
section
variable {w0 : World} {A : Option Addr} {N c : Nat} {now : Int} {gO gS m1 m2 : Nat} {o s : List Int} {f : Int → Int} {k : ByteArray × Int × Int → Option Nat} {w w' : World}
theorem IntRow.turned {S : Nat → Prop} {g : Nat} {xs : List Int} (h : IntRow w g xs) (ht : Turned S w w') (hn : ¬ S g) : IntRow w' g xs := (ht.block g h.lt hn).trans h
theorem Z.keep (h : Z w0 A N c now gO gS m1 m2 o s f k w) (hb : Below w.heap.size w w') : Z w0 A N c now gO gS m1 m2 o s f k w' :=
  ⟨cell_keep hb h.t0, cell_keep hb h.t1, h.out.keep hb, h.sums.keep hb, h.seen.keep hb, h.opn.keep hb, below_step h.below hb, h.ne⟩
theorem Z.setOut (h : Z w0 A N c now gO gS m1 m2 o s f k w) (i : Nat) (v : Int) : Z w0 A N c now gO gS m1 m2 (o.set i v) s f k (w.setCell ⟨gO, i, none⟩ (.int .i64 v)) := by
  have hne := h.ne
  have hT : Turned (fun k => k = gO) w (w.setCell ⟨gO, i, none⟩ (.int .i64 v)) := turned_set w gO i _ rfl
  exact ⟨cell_set h.t0 (by dsimp only; omega), cell_set h.t1 (by dsimp only; omega), h.out.set_ _ _, h.sums.turned hT (by omega), h.seen.turned hT (by omega), h.opn.turned hT (by omega), h.below.setCell (by dsimp only; omega) _, hne⟩
theorem Z.setSums (h : Z w0 A N c now gO gS m1 m2 o s f k w) (i : Nat) (v : Int) : Z w0 A N c now gO gS m1 m2 o (s.set i v) f k (w.setCell ⟨gS, i, none⟩ (.int .i64 v)) := by
  have hne := h.ne
  have hT : Turned (fun k => k = gS) w (w.setCell ⟨gS, i, none⟩ (.int .i64 v)) := turned_set w gS i _ rfl
  exact ⟨cell_set h.t0 (by dsimp only; omega), cell_set h.t1 (by dsimp only; omega), h.out.turned hT (by omega), h.sums.set_ _ _, h.seen.turned hT (by omega), h.opn.turned hT (by omega), h.below.setCell (by dsimp only; omega) _, hne⟩
theorem Z.updSeen (h : Z w0 A N c now gO gS m1 m2 o s f k w) {f' : Int → Int} (hT : Turned (fun k => k = m1) w w') (hm : MapAt Tryz.prog 3 w' m1 (seenF f')) : Z w0 A N c now gO gS m1 m2 o s f' k w' := by
  have hne := h.ne
  exact ⟨turned_cell hT (by omega) h.t0, turned_cell hT (by omega) h.t1, h.out.turned hT (by omega), h.sums.turned hT (by omega), hm, h.opn.turned hT (by omega), below_over h.below hT (fun k _ hk => by omega) h.below.size, hne⟩
theorem Z.updOpn (h : Z w0 A N c now gO gS m1 m2 o s f k w) {k' : ByteArray × Int × Int → Option Nat} (hT : Turned (fun k => k = m2) w w') (hm : MapAt Tryz.prog 136 w' m2 (opnF k')) : Z w0 A N c now gO gS m1 m2 o s f k' w' := by
  have hne := h.ne
  exact ⟨turned_cell hT (by omega) h.t0, turned_cell hT (by omega) h.t1, h.out.turned hT (by omega), h.sums.turned hT (by omega), h.seen.turned hT (by omega), hm, below_over h.below hT (fun k _ hk => by omega) h.below.size, hne⟩
end
/-- The round's two boxes. -/
structure Bx (b : Nat) (x : TStep) (w : World) : Prop where
  x0 : w.cell? ⟨b, 0, none⟩ = some (.string x.path)
  x1 : w.cell? ⟨b, 1, none⟩ = some (.int .i64 x.node)
  x2 : w.cell? ⟨b, 2, none⟩ = some (.int .i64 x.depth)
  x3 : w.cell? ⟨b, 3, none⟩ = some (.bool x.after)
structure Px (b : Nat) (x : TStep) (w : World) : Prop where
  x0 : w.cell? ⟨b, 0, none⟩ = some (.string x.path)
  x1 : w.cell? ⟨b, 1, none⟩ = some (.int .i64 x.node)
  x2 : w.cell? ⟨b, 2, none⟩ = some (.int .i64 x.depth)
theorem Bx.turned {S : Nat → Prop} {b : Nat} {x : TStep} {w w' : World} (h : Bx b x w) (hT : Turned S w w') (hn : ¬ S b) : Bx b x w' :=
  ⟨turned_cell hT hn h.x0, turned_cell hT hn h.x1, turned_cell hT hn h.x2, turned_cell hT hn h.x3⟩
theorem Px.turned {S : Nat → Prop} {b : Nat} {x : TStep} {w w' : World} (h : Px b x w) (hT : Turned S w w') (hn : ¬ S b) : Px b x w' :=
  ⟨turned_cell hT hn h.x0, turned_cell hT hn h.x1, turned_cell hT hn h.x2⟩
theorem Bx.keep {b : Nat} {x : TStep} {w w' : World} (h : Bx b x w) (hb : Below w.heap.size w w') : Bx b x w' := h.turned (turned_below (S := fun _ => False) hb) fun h => h
theorem Px.keep {b : Nat} {x : TStep} {w w' : World} (h : Px b x w) (hb : Below w.heap.size w w') : Px b x w' := h.turned (turned_below (S := fun _ => False) hb) fun h => h
end Go.Proofs.YtbfcfjgcmideeaaGreatDoor
