/- Is a copy still what it was made of? -/
import Derived.Test.YtfoocjdnolplpaaTwinTree
namespace Go.Proofs.Ytfoocjdnolplpaa
open Go.RowKit
attribute [local go_sem] Later.cell_eq
set_option maxHeartbeats 1000000 in
set_option maxRecDepth 100000 in
theorem leftBytes_calls (l : List Int) (hl : l.length ≤ 1000000) (A : Option Addr) (c g cap : Nat) (hc : l.length + 1 ≤ cap) (w : World) (hA : BytesAt w A l) (hT : BytesAt w (some ⟨g, 0, none⟩) (l ++ [77])) :
    Calls Try.prog 67 #[.slice (some ⟨g, 0, none⟩) l.length cap, .slice A l.length c] w fun e w' => e = .returned (.bool true) ∧ Below w.heap.size w w' := by
  have HA := Lib.hid hA
  have HT := Lib.hid hT
  have hcn : decide (cap ≤ l.length) = false := decide_eq_false (by omega)
  have hlc : l.length ≤ cap := by omega
  clear hA hT
  go_enter Try.func67, Try.ntmps67
  go_wp2
  go_loopg [5] l.length (fun g s5 wr => ∃ i : Nat, i + g = l.length ∧ s5 = .int .i64 i ∧ Below w.heap.size w wr)
  case atStart => exact ⟨0, by omega, rfl, Below.refl _ _⟩
  case round =>
    obtain ⟨i, hg, rfl, hb⟩ := hrel
    cases gk with
    | zero =>
      obtain rfl : i = l.length := by omega
      obtain ⟨b', o', hA', e0⟩ := HT.out l.length 77 (by simp)
      cases hA'
      replace e0 := cell_keep hb e0
      rw [Nat.zero_add] at e0
      go_wp2
      go_ret
      exact ⟨rfl, hb⟩
    | succ gg =>
      obtain ⟨x, hx⟩ : ∃ x, l[i]? = some x := ⟨l[i]'(by omega), by simp⟩
      obtain ⟨b, o, rfl, e0⟩ := HA.out i x hx
      obtain ⟨b', o', hA', f0⟩ := HT.out i x (by rw [List.getElem?_append_left (by omega)]; exact hx)
      cases hA'
      replace e0 := cell_keep hb e0
      replace f0 := cell_keep hb f0
      rw [Nat.zero_add] at f0
      have hbl := World.block_lt_of_cell? _ _ e0
      have hgl := World.block_lt_of_cell? _ _ f0
      dsimp only at hbl hgl
      have hi0 : (0 : Int) ≤ (i : Int) := by omega
      have hi1 : (i : Int) < (l.length : Int) := by omega
      clear hx
      go_wp2
      refine wp_region_later (by kernel_rfl) (by kernel_rfl) ?_
      repeat (go_big_quiet_step (fail))
      refine wpQuiet_nil ?_
      intro wL hbL
      go_wp2
      go_roundg gg
      case measure => omega
      case rel => exact ⟨i + 1, by omega, by go_num, below_step hb hbL⟩
set_option maxHeartbeats 1000000 in
set_option maxRecDepth 100000 in
theorem leftEntries_calls (l : List TEnt) (hl : l.length ≤ 1000000) (A : Option Addr) (c g cap : Nat) (hc : l.length + 1 ≤ cap) (w : World) (hA : EntsAt w A l) (hT : EntsAt w (some ⟨g, 0, none⟩) (l ++ [⟨⟨#[115, 112, 97, 114, 101]⟩, 0⟩])) :
    Calls Try.prog 68 #[.slice (some ⟨g, 0, none⟩) l.length cap, .slice A l.length c] w fun e w' => e = .returned (.bool true) ∧ Below w.heap.size w w' := by
  have HA := Lib.hid hA
  have HT := Lib.hid hT
  have hcn : decide (cap ≤ l.length) = false := decide_eq_false (by omega)
  have hlc : l.length ≤ cap := by omega
  clear hA hT
  go_enter Try.func68, Try.ntmps68
  go_wp2
  go_loopg [5] l.length (fun g s5 wr => ∃ i : Nat, i + g = l.length ∧ s5 = .int .i64 i ∧ Below w.heap.size w wr)
  case atStart => exact ⟨0, by omega, rfl, Below.refl _ _⟩
  case round =>
    obtain ⟨i, hg, rfl, hb⟩ := hrel
    cases gk with
    | zero =>
      obtain rfl : i = l.length := by omega
      obtain ⟨b', o', hA', e0, e1⟩ := HT.out l.length _ (by simp; rfl)
      cases hA'
      replace e0 := cell_keep hb e0
      replace e1 := cell_keep hb e1
      rw [Nat.zero_add] at e0 e1
      go_wp2
      go_ret
      exact ⟨rfl, below_alloc hb _⟩
    | succ gg =>
      obtain ⟨x, hx⟩ : ∃ x, l[i]? = some x := ⟨l[i]'(by omega), by simp⟩
      obtain ⟨b, o, rfl, e0, e1⟩ := HA.out i x hx
      obtain ⟨b', o', hA', f0, f1⟩ := HT.out i x (by rw [List.getElem?_append_left (by omega)]; exact hx)
      cases hA'
      replace e0 := cell_keep hb e0
      replace f0 := cell_keep hb f0
      replace e1 := cell_keep hb e1
      replace f1 := cell_keep hb f1
      rw [Nat.zero_add] at f0 f1
      have hbl := World.block_lt_of_cell? _ _ e0
      have hgl := World.block_lt_of_cell? _ _ f0
      dsimp only at hbl hgl
      have hi0 : (0 : Int) ≤ (i : Int) := by omega
      have hi1 : (i : Int) < (l.length : Int) := by omega
      clear hx
      go_wp2
      refine wp_region_later (by kernel_rfl) (by kernel_rfl) ?_
      repeat (go_big_quiet_step (fail))
      refine wpQuiet_nil ?_
      intro wL hbL
      go_wp2
      go_roundg gg
      case measure => omega
      case rel => exact ⟨i + 1, by omega, by go_num, below_step hb hbL⟩
end Go.Proofs.Ytfoocjdnolplpaa
