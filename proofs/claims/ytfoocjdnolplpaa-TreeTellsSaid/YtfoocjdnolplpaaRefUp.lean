/- The reference of layer 12: the way up. -/
import Derived.Test.YtfoocjdnolplpaaDirs
import Derived.Outline
namespace Go.Proofs.Ytfoocjdnolplpaa
open Go.RowKit
attribute [local go_sem] Later.cell_eq
def upZ (t : TTree) : Nat → Int → Int → Int
  | 0, _, _ => -1
  | k + 1, n, i => if i = 1 then n else if i < 1 ∨ (t.nodes.length : Int) ≤ i ∨ (t.at i).kind ≠ 2 then -1 else upZ t k (n + 1) (t.at i).parent
theorem upZ_iff (t : TTree) (k : Nat) : ∀ (n i : Int), 0 ≤ n → (0 ≤ upZ t (k + 1) n i ↔ upB t k i = true) := by
  induction k with
  | zero =>
    intro n i hn
    unfold upZ
    by_cases h1 : i = 1
    · subst h1; simp [upB, hn]
    · rw [if_neg h1, upB_zero t i h1]
      split
      · simp
      · simp [upZ]
  | succ k ih =>
    intro n i hn
    unfold upZ
    by_cases h1 : i = 1
    · subst h1; simp [upB, hn]
    · rw [if_neg h1]
      by_cases h2 : i < 1 ∨ (t.nodes.length : Int) ≤ i ∨ (t.at i).kind ≠ 2
      · rw [if_pos h2]
        have : upB t (k + 1) i = false := by
          rcases h2 with h | h | h
          · exact upB_low t _ _ h
          · exact upB_high t _ _ h1 h
          · exact upB_kind t _ _ h1 h
        rw [this]; simp
      · rw [if_neg h2, ih _ _ (by omega), upB_step t k i (by omega) (by omega) (by omega)]
theorem upZ_deep (t : TTree) (k : Nat) : ∀ (n i : Int), 0 ≤ n → upB t k i = true → upZ t (k + 1) n i = n + (deepN t k i : Nat) := by
  induction k with
  | zero =>
    intro n i hn hu
    have h1 : i = 1 := by simpa [upB] using hu
    subst h1
    unfold upZ; simp [deepN]
  | succ k ih =>
    intro n i hn hu
    unfold upZ
    by_cases h1 : i = 1
    · subst h1; simp [deepN]
    · rw [if_neg h1]
      obtain ⟨j, hj, a, b, c, d⟩ := upB_next hu h1
      obtain rfl : j = k := by omega
      rw [if_neg (by omega), ih _ _ (by omega) d]
      conv => rhs; unfold deepN
      rw [if_neg h1]
      push_cast; omega
def refUp (t : TTree) (i : Int) : Int := upZ t 33 0 i
theorem refUp_iff (t : TTree) (i : Int) : 0 ≤ refUp t i ↔ upB t 32 i = true := upZ_iff t 32 0 i (by omega)
set_option maxHeartbeats 2000000 in
set_option maxRecDepth 100000 in
theorem refUp_calls (t : TTree) (hF : t.Fits) (i0 : Int) (A : Option Addr) (c : Nat) (w : World) (hA : NodesAt w A t.nodes) :
    Calls Try.prog 37 #[.agg #[.slice A t.nodes.length c, .int .i64 t.now], .int .i64 i0] w fun e w' => e = .returned (.int .i64 (refUp t i0)) ∧ Below w.heap.size w w' := by
  have HA := Lib.hid hA
  have hn47 := hF.nodes
  clear hA hF
  go_enter Try.func37, Try.ntmps37
  go_wp2
  have hb0 : Below w.heap.size w (w.alloc (.cells #[.slice A t.nodes.length c, .int .i64 t.now] 24)) := below_alloc (Below.refl _ _) _
  have k0 : (w.alloc (.cells #[.slice A t.nodes.length c, .int .i64 t.now] 24)).cell? ⟨w.heap.size, 0, none⟩ = some (.slice A t.nodes.length c) := by rw [World.cell?_alloc_new]; rfl
  go_loopg [1, 5] 33 (fun g s1 s5 wr => ∃ (i : Int) (n : Nat), n + g = 33 ∧ s1 = .int .i64 i ∧ s5 = .int .i64 n ∧ Hid (upZ t g n i = refUp t i0) ∧ Below w.heap.size w wr ∧ wr.cell? ⟨w.heap.size, 0, none⟩ = some (.slice A t.nodes.length c))
  case atStart => exact ⟨i0, 0, by omega, rfl, rfl, Lib.hid rfl, hb0, k0⟩
  case round =>
    clear hb0 k0
    obtain ⟨i, n, hg, rfl, rfl, HU, hb, k0⟩ := hrel
    cases gk with
    | zero =>
      obtain rfl : n = 33 := by omega
      go_wp2
      go_ret
      exact ⟨ret_int (by rw [← HU.out]; rfl), hb⟩
    | succ g =>
      have hn : n ≤ 32 := by omega
      by_cases h1 : i = 1
      · have HV := Lib.hid (show upZ t (g + 1) n i = n by unfold upZ; rw [if_pos h1])
        have e1 : (i == 1) = true := beq_iff_eq.2 h1
        clear h1
        go_wp2
        go_ret
        exact ⟨ret_int (by rw [← HU.out, HV.out]), hb⟩
      · have e1 : (i == 1) = false := beq_eq_false_iff_ne.2 h1
        by_cases h2 : i < 1
        · have HV := Lib.hid (show upZ t (g + 1) n i = -1 by unfold upZ; rw [if_neg h1, if_pos (Or.inl h2)])
          clear h1
          go_wp2
          go_ret
          exact ⟨ret_int (by rw [← HU.out, HV.out]), hb⟩
        · have e2 : decide (i < 1) = false := decide_eq_false h2
          by_cases h3 : (t.nodes.length : Int) ≤ i
          · have HV := Lib.hid (show upZ t (g + 1) n i = -1 by unfold upZ; rw [if_neg h1, if_pos (Or.inr (Or.inl h3))])
            clear h1
            go_wp2
            go_ret
            exact ⟨ret_int (by rw [← HU.out, HV.out]), hb⟩
          · have e3 : decide ((t.nodes.length : Int) ≤ i) = false := decide_eq_false h3
            obtain ⟨x, hx⟩ : ∃ x, t.nodes[i.toNat]? = some x := ⟨t.nodes[i.toNat]'(by omega), by simp⟩
            obtain ⟨b, o, Dx, cdx, Lx, clx, rfl, _, _, _, _, x0, x1, x2, x3, x4, x5, x6, x7, x8, x9⟩ := HA.out.get hx
            have hat : t.at i = x := by simp [TTree.at, hx]
            replace x0 := cell_keep hb x0
            replace x9 := cell_keep hb x9
            have hi0 : 0 ≤ i := by omega
            have hi1 : i < (t.nodes.length : Int) := by omega
            clear x1 x2 x3 x4 x5 x6 x7 x8 hx
            by_cases h4 : x.kind = 2
            · have e4 : (x.kind != 2) = false := by simp [h4]
              have HV := Lib.hid (show upZ t (g + 1) n i = upZ t g (n + 1) x.parent by
                conv => lhs; unfold upZ
                rw [if_neg h1, hat, if_neg (by omega)])
              clear h1 h4 hat
              go_wp2
              go_roundg g
              case measure => omega
              case rel => exact ⟨x.parent, n + 1, by omega, rfl, by go_num, Lib.hid (by rw [← HU.out, HV.out]; push_cast; rfl), hb, k0⟩
            · have e4 : (x.kind != 2) = true := by simp [h4]
              have HV := Lib.hid (show upZ t (g + 1) n i = -1 by unfold upZ; rw [if_neg h1, hat, if_pos (Or.inr (Or.inr h4))])
              clear h1 h4 hat
              go_wp2
              go_ret
              exact ⟨ret_int (by rw [← HU.out, HV.out]), hb⟩
end Go.Proofs.Ytfoocjdnolplpaa
