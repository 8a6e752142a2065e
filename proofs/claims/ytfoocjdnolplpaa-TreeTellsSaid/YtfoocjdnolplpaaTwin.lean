/- The laws' copies of a tree. -/
import Derived.Test.YtfoocjdnolplpaaOwn
import Derived.Test.YtfoocjdnolplpaaListed
import Derived.Deep.RegionHeld3
import Derived.Deep.MidRow
import Derived.Outline
namespace Go.Proofs.Ytfoocjdnolplpaa
open Go.RowKit
attribute [local go_sem] Later.cell_eq
theorem elem_u8 : Elem Try.prog 42 5 1 1 := Elem.mk' (z := .int .u8 0) Try.underlying42 (by kernel_rfl) rfl (by decide)
theorem elem_ent : Elem Try.prog 43 56 2 24 := Elem.mk' (z := .agg #[.string ⟨#[]⟩, .int .i64 0]) Try.underlying43 (by kernel_rfl) rfl (by decide)
theorem elem_node : Elem Try.prog 22 45 10 120 := Elem.mk' (z := .agg #[.int .u8 0, .int .i64 0, .int .i64 0, .int .i64 0, .int .i64 0, .int .i64 0, .slice none 0 0, .string ⟨#[]⟩, .slice none 0 0, .int .i64 0]) Try.underlying22 (by kernel_rfl) rfl (by decide)
def byteRow (x : Int) : List Value := [.int .u8 x]
def entRow (e : TEnt) : List Value := [.string e.name, .int .i64 e.node]
theorem bytesAt_own {w : World} {B : Nat} {e : TypeId} {g n c : Nat} {l : List Int} (h : Own w B e 1 (.slice (some ⟨g, 0, none⟩) n c) (l.map byteRow)) : BytesAt w (some ⟨g, 0, none⟩) l := fun k x hk =>
  ⟨g, 0, rfl, by have := h.cell (i := k) (r := byteRow x) (by simp [hk]) (j := 0) rfl; simpa using this⟩
theorem entsAt_own {w : World} {B : Nat} {e : TypeId} {g n c : Nat} {l : List TEnt} (h : Own w B e 2 (.slice (some ⟨g, 0, none⟩) n c) (l.map entRow)) : EntsAt w (some ⟨g, 0, none⟩) l := fun k x hk =>
  ⟨g, 0, rfl, h.cell (i := k) (r := entRow x) (by simp [hk]) (j := 0) rfl, h.cell (i := k) (r := entRow x) (by simp [hk]) (j := 1) rfl⟩
theorem map_take_succ {α β : Type} (f : α → β) {l : List α} {k : Nat} {x : α} (h : l[k]? = some x) : (l.take (k + 1)).map f = (l.take k).map f ++ [f x] := by
  rw [List.take_add_one, h]; simp
set_option maxHeartbeats 1000000 in
set_option maxRecDepth 100000 in
theorem twinBytes_calls (l : List Int) (hl : l.length ≤ 1000000) (A : Option Addr) (c : Nat) (w : World) (hA : BytesAt w A l) :
    Calls Try.prog 62 #[.slice A l.length c] w fun e w' => ∃ g cap, (e = .returned (.slice (some ⟨g, 0, none⟩) l.length cap) ∧ l.length + 1 ≤ cap ∧ w.heap.size ≤ g ∧ BytesAt w' (some ⟨g, 0, none⟩) (l ++ [77])) ∧ Below w.heap.size w w' := by
  have HA := Lib.hid hA
  clear hA
  go_enter Try.func62, Try.ntmps62
  go_wp2_with (at_make; refine wpList_make_zero rfl _ _ 42 rfl elem_u8 .i64 .i64 ((l.length : Int) + 1) (l.length + 1) rfl rfl ?d1 ?d2 ?d3 (Below.refl _ _) ?_; (case d1 => omega); (case d2 => omega); (case d3 => unfold maxLen; omega); intro w1 hown1 hb1 _)
  go_loopg [3, 4] l.length (fun g s3 s4 wr => ∃ (k : Nat) (rows : List (List Value)), k + g = l.length ∧ s4 = .int .i64 k ∧ Own wr w.heap.size 5 1 s3 rows ∧ Below w.heap.size w wr ∧ Hid (rows = (l.take k).map byteRow))
  case atStart => exact ⟨0, [], by omega, rfl, hown1, hb1, Lib.hid rfl⟩
  case round =>
    clear hown1 hb1
    obtain ⟨k, rows, hg, rfl, hown, hb, HR⟩ := hrel
    have hn : Hid (rows.length = k) := Lib.hid (by rw [HR.out]; simp; omega)
    cases gk with
    | zero =>
      obtain rfl : k = l.length := by omega
      go_wp2_with (at_builtin; refine wpList_append_one rfl _ _ 42 rfl elem_u8 l.length hn.out [.int .u8 77] rfl hown hb rfl rfl (by simp [Value.oneCell']) (by unfold maxLen; omega) (by omega) ?_; rintro _ w2 hown2 hb2 - - ⟨g', c', rfl, hc', hg'⟩; have hc2 : l.length ≤ c' := by omega)
      go_ret
      rw [HR.out, List.take_length] at hown2
      exact ⟨g', c', ⟨rfl, hc', hg', bytesAt_own (l := l ++ [77]) (by rw [List.map_append]; exact hown2)⟩, hb2⟩
    | succ gg =>
      obtain ⟨x, hx⟩ : ∃ x, l[k]? = some x := ⟨l[k]'(by omega), by simp⟩
      obtain ⟨b, o, rfl, e0⟩ := HA.out k x hx
      replace e0 := cell_keep hb e0
      have HX := Lib.hid hx
      clear hx
      go_wp2_with (at_builtin; refine wpList_append_one rfl _ _ 42 rfl elem_u8 k hn.out [.int .u8 x] rfl hown hb rfl rfl (by simp [Value.oneCell']) (by unfold maxLen; omega) (by omega) ?_; rintro _ w2 hown2 hb2 - - ⟨g', c', rfl, hc', hg'⟩)
      go_roundg gg
      case measure => omega
      case rel => exact ⟨k + 1, _, by omega, by go_num, hown2, hb2, Lib.hid (by rw [map_take_succ _ HX.out, HR.out]; rfl)⟩
set_option maxHeartbeats 1000000 in
set_option maxRecDepth 100000 in
theorem twinEntries_calls (l : List TEnt) (hl : l.length ≤ 1000000) (A : Option Addr) (c : Nat) (w : World) (hA : EntsAt w A l) :
    Calls Try.prog 63 #[.slice A l.length c] w fun e w' => ∃ g cap, (e = .returned (.slice (some ⟨g, 0, none⟩) l.length cap) ∧ l.length + 1 ≤ cap ∧ w.heap.size ≤ g ∧ EntsAt w' (some ⟨g, 0, none⟩) (l ++ [⟨⟨#[115, 112, 97, 114, 101]⟩, 0⟩])) ∧ Below w.heap.size w w' := by
  have HA := Lib.hid hA
  clear hA
  go_enter Try.func63, Try.ntmps63
  go_wp2_with (at_make; refine wpList_make_zero rfl _ _ 43 rfl elem_ent .i64 .i64 ((l.length : Int) + 1) (l.length + 1) rfl rfl ?d1 ?d2 ?d3 (Below.refl _ _) ?_; (case d1 => omega); (case d2 => omega); (case d3 => unfold maxLen; omega); intro w1 hown1 hb1 _)
  go_loopg [3, 4] l.length (fun g s3 s4 wr => ∃ (k : Nat) (rows : List (List Value)), k + g = l.length ∧ s4 = .int .i64 k ∧ Own wr w.heap.size 56 2 s3 rows ∧ Below w.heap.size w wr ∧ Hid (rows = (l.take k).map entRow))
  case atStart => exact ⟨0, [], by omega, rfl, hown1, hb1, Lib.hid rfl⟩
  case round =>
    clear hown1 hb1
    obtain ⟨k, rows, hg, rfl, hown, hb, HR⟩ := hrel
    have hn : Hid (rows.length = k) := Lib.hid (by rw [HR.out]; simp; omega)
    cases gk with
    | zero =>
      obtain rfl : k = l.length := by omega
      go_wp2_with (at_builtin; refine wpList_append_one rfl _ _ 43 rfl elem_ent l.length hn.out [.string ⟨#[115, 112, 97, 114, 101]⟩, .int .i64 0] rfl hown hb rfl rfl (by simp [Value.oneCell']) (by unfold maxLen; omega) (by omega) ?_; rintro _ w2 hown2 hb2 - - ⟨g', c', rfl, hc', hg'⟩; have hc2 : l.length ≤ c' := by omega)
      go_ret
      rw [HR.out, List.take_length] at hown2
      exact ⟨g', c', ⟨rfl, hc', hg', entsAt_own (l := l ++ [⟨⟨#[115, 112, 97, 114, 101]⟩, 0⟩]) (by rw [List.map_append]; exact hown2)⟩, hb2⟩
    | succ gg =>
      obtain ⟨x, hx⟩ : ∃ x, l[k]? = some x := ⟨l[k]'(by omega), by simp⟩
      obtain ⟨b, o, rfl, e0, e1⟩ := HA.out k x hx
      replace e0 := cell_keep hb e0
      replace e1 := cell_keep hb e1
      have HX := Lib.hid hx
      clear hx
      go_wp2_with (at_builtin; refine wpList_append_one rfl _ _ 43 rfl elem_ent k hn.out [.string x.name, .int .i64 x.node] rfl hown hb rfl rfl (by simp [Value.oneCell']) (by unfold maxLen; omega) (by omega) ?_; rintro _ w2 hown2 hb2 - - ⟨g', c', rfl, hc', hg'⟩)
      go_roundg gg
      case measure => omega
      case rel => exact ⟨k + 1, _, by omega, by go_num, hown2, hb2, Lib.hid (by rw [map_take_succ _ HX.out, HR.out]; rfl)⟩
end Go.Proofs.Ytfoocjdnolplpaa
