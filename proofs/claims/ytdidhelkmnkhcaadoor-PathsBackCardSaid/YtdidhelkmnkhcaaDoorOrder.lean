/- The order of names: plain lists of bytes. -/
import Derived.Test.YtdidhelkmnkhcaaDoorTree
import Derived.Lib.Bytealg
namespace Go.Proofs.YtdidhelkmnkhcaaDoor
theorem bl_irrefl : ∀ a : List UInt8, Go.Op.bytesLess a a = false
  | [] => rfl
  | x :: a => by simp [Go.Op.bytesLess, bl_irrefl a]
theorem bl_trans : ∀ a b c : List UInt8, Go.Op.bytesLess a b = true → Go.Op.bytesLess b c = true → Go.Op.bytesLess a c = true
  | [], [], _, h, _ => by cases h
  | [], _ :: _, [], _, h => by cases h
  | [], _ :: _, _ :: _, _, _ => rfl
  | _ :: _, [], _, h, _ => by cases h
  | _ :: _, _ :: _, [], _, h => by cases h
  | x :: a, y :: b, z :: c, h, k => by
    simp only [Go.Op.bytesLess, Bool.or_eq_true, decide_eq_true_iff, Bool.and_eq_true, beq_iff_eq] at h k ⊢
    rcases h with h | ⟨rfl, h⟩
    · rcases k with k | ⟨rfl, k⟩
      · exact Or.inl (UInt8.lt_trans h k)
      · exact Or.inl h
    · rcases k with k | ⟨rfl, k⟩
      · exact Or.inl k
      · exact Or.inr ⟨rfl, bl_trans a b c h k⟩
theorem cmp_lt : ∀ a b : List UInt8, Go.Lib.compareBytes a b < 0 ↔ Go.Op.bytesLess a b = true
  | [], [] => by decide
  | [], _ :: _ => by simp [Go.Lib.compareBytes, Go.Op.bytesLess]
  | _ :: _, [] => by simp [Go.Lib.compareBytes, Go.Op.bytesLess]
  | x :: a, y :: b => by
    have ih := cmp_lt a b
    simp only [Go.Lib.compareBytes, Go.Op.bytesLess, Bool.or_eq_true, decide_eq_true_iff, Bool.and_eq_true, beq_iff_eq]
    by_cases h : x < y
    · simp [h]
    · by_cases k : y < x
      · have : x ≠ y := fun e => by subst e; exact UInt8.lt_irrefl _ k
        simp [h, k, this]
      · have : x = y := UInt8.le_antisymm (UInt8.not_lt.mp k) (UInt8.not_lt.mp h)
        subst this
        simp [ih, UInt8.lt_irrefl]
theorem cmp_eq : ∀ a b : List UInt8, Go.Lib.compareBytes a b = 0 ↔ a = b
  | [], [] => by decide
  | [], _ :: _ => by simp [Go.Lib.compareBytes]
  | _ :: _, [] => by simp [Go.Lib.compareBytes]
  | x :: a, y :: b => by
    have ih := cmp_eq a b
    simp only [Go.Lib.compareBytes, List.cons.injEq]
    by_cases h : x < y
    · have : x ≠ y := fun e => by subst e; exact UInt8.lt_irrefl _ h
      simp [h, this]
    · by_cases k : y < x
      · have : x ≠ y := fun e => by subst e; exact UInt8.lt_irrefl _ k
        simp [h, k, this]
      · have : x = y := UInt8.le_antisymm (UInt8.not_lt.mp k) (UInt8.not_lt.mp h)
        subst this
        simp [ih, UInt8.lt_irrefl]
theorem strLt_irrefl (a : ByteArray) : strLt a a = false := bl_irrefl _
theorem strLt_trans {a b c : ByteArray} (h : strLt a b = true) (k : strLt b c = true) : strLt a c = true := bl_trans _ _ _ h k
theorem str_ext {a b : ByteArray} (h : a.data.toList = b.data.toList) : a = b := by
  cases a; cases b; congr; exact Array.ext' h
def scmp (a b : ByteArray) : Int := Go.Lib.compareBytes a.data.toList b.data.toList
theorem scmp_lt (a b : ByteArray) : scmp a b < 0 ↔ strLt a b = true := by
  unfold scmp strLt
  rw [cmp_lt, ByteArray.toList_eq, ByteArray.toList_eq]
theorem scmp_eq (a b : ByteArray) : scmp a b = 0 ↔ a = b := by
  unfold scmp
  rw [cmp_eq]
  exact ⟨str_ext, fun h => by rw [h]⟩

/-- Names rise. -/
def Rising (l : List TEnt) : Prop := ∀ (i j : Nat) (e f : TEnt), i < j → l[i]? = some e → l[j]? = some f → strLt e.name f.name = true
theorem listOK_rising {t : TTree} {i : Nat} {n : TNode} (h : listOK t i n) : Rising n.list := by
  intro a b e f hab he hf
  induction b generalizing f with
  | zero => omega
  | succ b ih =>
    have hb : b + 1 < n.list.length := (List.getElem?_eq_some_iff.1 hf).1
    obtain ⟨g, hg⟩ : ∃ g, n.list[b]? = some g := ⟨n.list[b], by simp⟩
    have h1 := (h (b + 1) f hb hf).2.1 g (by rw [if_neg (by omega)]; exact hg)
    by_cases c : a = b
    · subst c; rw [he] at hg; cases hg; exact h1
    · exact strLt_trans (ih g (by omega) hg) h1
def sameB (a b : ByteArray) : Bool := a.data.toList == b.data.toList
/-- The node of a name in a list; 0: none. -/
def inList (l : List TEnt) (s : ByteArray) : Int := match l.find? (fun e => sameB e.name s) with | some e => e.node | none => 0
theorem beq_name (a b : ByteArray) : sameB a b = true ↔ a = b := by
  unfold sameB
  rw [beq_iff_eq]
  exact ⟨str_ext, fun h => by rw [h]⟩
theorem inList_hit {l : List TEnt} (hr : Rising l) {k : Nat} {e : TEnt} (he : l[k]? = some e) : inList l e.name = e.node := by
  unfold inList
  have hk : k < l.length := (List.getElem?_eq_some_iff.1 he).1
  have hf : l.find? (fun f => sameB f.name e.name) = some e := by
    rw [List.find?_eq_some_iff_getElem]
    refine ⟨(beq_name _ _).mpr rfl, k, hk, (List.getElem?_eq_some_iff.1 he).2, fun j hj => ?_⟩
    have hlt := hr j k l[j] e hj (by simp) he
    cases hb : (sameB l[j].name e.name) with
    | false => rfl
    | true => rw [(beq_name _ _).mp hb, strLt_irrefl] at hlt; cases hlt
  rw [hf]
theorem inList_miss {l : List TEnt} {s : ByteArray} (h : ∀ e ∈ l, e.name ≠ s) : inList l s = 0 := by
  unfold inList
  have hf : l.find? (fun f => sameB f.name s) = none := by
    rw [List.find?_eq_none]
    intro e he hb
    exact h e he ((beq_name _ _).mp hb)
  rw [hf]
end Go.Proofs.YtdidhelkmnkhcaaDoor
