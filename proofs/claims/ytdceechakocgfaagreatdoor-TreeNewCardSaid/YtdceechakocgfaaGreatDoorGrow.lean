/- The Book: each list of a kind is grown by marks. -/
import Derived.Test.YtdceechakocgfaaGreatDoorGrowIn
import Derived.Test.YtdceechakocgfaaGreatDoorMark
namespace Go.Proofs.YtdceechakocgfaaGreatDoor
open Go.RowKit
attribute [local go_sem] Later.cell_eq
theorem elem_rByte : Elem Tryz.prog 71 5 1 1 := Elem.mk' (z := .int .u8 0) Tryz.underlying71 (by kernel_rfl) rfl (by decide)
theorem elem_rEntry : Elem Tryz.prog 72 122 2 24 := Elem.mk' (z := .agg #[.string ⟨#[]⟩, .int .i64 0]) Tryz.underlying72 (by kernel_rfl) rfl (by decide)
theorem elem_rNode : Elem Tryz.prog 36 74 10 120 := Elem.mk' (z := .agg #[.int .u8 0, .int .i64 0, .int .i64 0, .int .i64 0, .int .i64 0, .int .i64 0, .slice none 0 0, .string ⟨#[]⟩, .slice none 0 0, .int .i64 0]) Tryz.underlying36 (by kernel_rfl) rfl (by decide)
theorem markByte_lit (n : Int) (hn : 0 ≤ n ∧ n < 100) (w : World) :
    Calls Tryz.prog 104 #[.int .i64 n] w fun e w' => e = .returned (.int .u8 (1 + n % 250)) ∧ Below w.heap.size w w' := markByte_calls n (by omega) w
theorem markEntry_lit (n : Int) (hn : 0 ≤ n ∧ n < 100) (w : World) :
    Calls Tryz.prog 112 #[.int .i64 n] w fun e w' => e = .returned (.agg #[.string (wordS n), .int .i64 0]) ∧ Below w.heap.size w w' := markEntry_calls n hn w
theorem markNode_lit (n : Int) (hn : 0 ≤ n ∧ n < 100) (w : World) :
    Calls Tryz.prog 113 #[.int .i64 n] w fun e w' => e = .returned (.agg #[.int .u8 0, .int .i64 (-1000 - n), .int .i64 0, .int .i64 0, .int .i64 0, .int .i64 0, .slice none 0 0, .string ⟨#[]⟩, .slice none 0 0, .int .i64 0]) ∧ Below w.heap.size w w' := markNode_calls n (by omega) w
set_option maxHeartbeats 2000000 in
theorem growByte_calls (w : World) (B bk : Nat) (lab : Lab) (cs : Array Value) (s : KS) (hB : B ≤ w.heap.size) (hbk : w.heap[bk]? = some (.cells cs 35 (0, 0))) (hj : cs[1]? = some s.sv) (hlb : lab bk = (0, 1)) (hk : Kind w B lab 1 127 5 1 s) (h0 : s.d = 0) (hnum : ∀ x, x < s.N → 0 ≤ s.num x ∧ s.num x < 100) (hN : s.N ≤ 1000000) (hlen : ∀ x, x < s.N → (s.R x).length ≤ 1000000) (fresh : ∀ k, w.heap.size ≤ k → lab k = (0, 0)) :
    Calls Tryz.prog 49 #[.pointer (some ⟨bk, 0, none⟩)] w fun e w' => e = .returned (.tuple #[]) ∧ Gro w B lab 1 127 5 1 s mkB s.N w' := by
  have hF := Gro.start mkB hk h0 fresh
  have hV : ∀ x, x < s.N → ∃ A c, s.V x = .slice A (s.R x).length c := fun x hx => own_len (hk.todo x (by omega) hx).1
  obtain ⟨A, c, hsv⟩ := own_len hk.held
  rw [s.rows_length] at hsv
  rw [hsv] at hj
  have hnb : ¬ (lab bk).1 = 1 := by rw [hlb]; decide
  have HBK := Lib.hid hbk
  have HJ := Lib.hid hj
  have HNB := Lib.hid hnb
  have HNUM := Lib.hid hnum
  have HSV := Lib.hid hsv
  have HV := Lib.hid hV
  have HL := Lib.hid hlen
  clear hbk hj hlb hnum h0 hk hsv hV hlen fresh hnb
  go_enter Tryz.func49, Tryz.ntmps49
  go_wp2
  go_loopg [2] s.N (fun g s2 wr => ∃ i : Nat, i + g = s.N ∧ s2 = .int .i64 i ∧ Hid (Gro w B lab 1 127 5 1 s mkB i wr))
  case atStart => exact ⟨0, by omega, rfl, Lib.hid hF⟩
  case round =>
    clear hF
    obtain ⟨i, hg, rfl, HF⟩ := hrel
    have k1 := (cell_of_row wr bk 1 _ _ _ (turned_book HF.out.turned HNB.out HBK.out)).trans HJ.out
    cases gk with
    | zero =>
      obtain rfl : i = s.N := by omega
      go_wp2
      refine bodyPost_end (v := .tuple #[]) (by kernel_rfl) rfl ?_
      exact ⟨rfl, HF.out⟩
    | succ g =>
      obtain ⟨gs, c', l, e1, c0, c1, c2, hl⟩ := HF.out.head (x := i) (by omega)
      rw [HSV.out] at e1
      cases e1
      obtain ⟨Av, cv, hv⟩ := HV.out i (by omega)
      rw [hv] at c0
      rw [hl (Nat.le_refl _)] at c1
      have hd : decide (i < s.N) = true := decide_eq_true (by omega)
      go_upto_region 4 with fail
      have hin := HF.out.into (show i < s.N by omega) (.cells #[.slice Av (s.R i).length cv, .slice none 0 0, .int .i64 (s.num i)] 127)
      rw [hv] at hin
      obtain ⟨wb, hwb⟩ : ∃ x, x = wr.alloc (.cells #[.slice Av (s.R i).length cv, .slice none 0 0, .int .i64 (s.num i)] 127) := ⟨_, rfl⟩
      rw [← hwb] at hin
      rw [← hwb]
      obtain ⟨hb, hhb⟩ : ∃ x, x = wr.heap.size := ⟨_, rfl⟩
      rw [← hhb] at hin
      rw [← hhb]
      have hb0 := cell_of_row wb hb 0 _ _ _ hin.box
      have HN := Lib.hid (HNUM.out i (by omega))
      have HLI := Lib.hid (HL.out i (by omega))
      have HIN := Lib.hid hin
      clear hwb hhb k1 c0 c1 c2 HF hin
      go_wp2
      go_loopg [4, 5] 40 (fun g s4 s5 wi => ∃ k : Nat, k + g = 40 ∧ s5 = .int .i64 k ∧ Hid (GroIn w B lab 1 127 5 1 s mkB i k s4 hb (.cells #[.slice Av (s.R i).length cv, .slice none 0 0, .int .i64 (s.num i)] 127 (0, 0)) wi))
      case atStart => exact ⟨0, by omega, rfl, HIN⟩
      case round =>
        clear HIN hb0
        obtain ⟨k, hkg, rfl, HF⟩ := hrel
        obtain ⟨A4, c4, h4⟩ := own_len HF.out.own
        rw [List.length_append, List.length_replicate] at h4
        subst h4
        cases gk with
        | zero =>
          obtain rfl : k = 40 := by omega
          have k1 := (cell_of_row wr bk 1 _ _ _ (turned_book HF.out.turned HNB.out HBK.out)).trans HJ.out
          obtain ⟨gs', c', l', e1, c1, f1⟩ := HF.out.head
          rw [HSV.out] at e1
          cases e1
          go_wp2
          go_roundg g
          case measure => omega
          case rel => exact ⟨i + 1, by omega, by go_num, Lib.hid (HF.out.out HSV.out)⟩
        | succ gg =>
          have c2 : wr.cell? ⟨hb, 2, none⟩ = some (.int .i64 (s.num i)) := cell_of_row wr hb 2 _ _ _ HF.out.box
          go_wp2_with (first
            | (go_at_call 104
               refine (markByte_lit (s.num i) HN.out _).mono ?_
               rintro _ w1 ⟨rfl, hb1⟩
               have HF1 := Lib.hid (HF.out.keep hb1)
               have hB1 : B ≤ w1.heap.size := Nat.le_trans hB (Nat.le_trans HF.out.turned.size hb1.size)
               have HH1 := Lib.hid hb1
               clear hb1)
            | (at_builtin
               refine wpList_append_grow rfl _ _ 71 rfl elem_rByte ((s.R i).length + k) (by rw [List.length_append, List.length_replicate]) (mkB (s.num i)) rfl HF1.out.own hB1 rfl rfl (by simp [mkB, Value.oneCell']) (by have := HLI.out; unfold maxLen; omega) (by have := HLI.out; omega) ?_
               rintro _ w2 hown2 hg2 hv2 ⟨A5, c5, rfl⟩
               have HF2 := Lib.hid (HF1.out.step hown2 hg2 hv2)
               clear hown2 hg2 hv2))
          go_roundg gg
          case measure => omega
          case rel => exact ⟨k + 1, by omega, by go_num, HF2⟩
set_option maxHeartbeats 2000000 in
theorem growEntry_calls (w : World) (B bk : Nat) (lab : Lab) (cs : Array Value) (s : KS) (hB : B ≤ w.heap.size) (hbk : w.heap[bk]? = some (.cells cs 35 (0, 0))) (hj : cs[9]? = some s.sv) (hlb : lab bk = (0, 1)) (hk : Kind w B lab 9 162 122 2 s) (h0 : s.d = 0) (hnum : ∀ x, x < s.N → 0 ≤ s.num x ∧ s.num x < 100) (hN : s.N ≤ 1000000) (hlen : ∀ x, x < s.N → (s.R x).length ≤ 1000000) (fresh : ∀ k, w.heap.size ≤ k → lab k = (0, 0)) :
    Calls Tryz.prog 57 #[.pointer (some ⟨bk, 0, none⟩)] w fun e w' => e = .returned (.tuple #[]) ∧ Gro w B lab 9 162 122 2 s mkE s.N w' := by
  have hF := Gro.start mkE hk h0 fresh
  have hV : ∀ x, x < s.N → ∃ A c, s.V x = .slice A (s.R x).length c := fun x hx => own_len (hk.todo x (by omega) hx).1
  obtain ⟨A, c, hsv⟩ := own_len hk.held
  rw [s.rows_length] at hsv
  rw [hsv] at hj
  have hnb : ¬ (lab bk).1 = 9 := by rw [hlb]; decide
  have HBK := Lib.hid hbk
  have HJ := Lib.hid hj
  have HNB := Lib.hid hnb
  have HNUM := Lib.hid hnum
  have HSV := Lib.hid hsv
  have HV := Lib.hid hV
  have HL := Lib.hid hlen
  clear hbk hj hlb hnum h0 hk hsv hV hlen fresh hnb
  go_enter Tryz.func57, Tryz.ntmps57
  go_wp2
  go_loopg [2] s.N (fun g s2 wr => ∃ i : Nat, i + g = s.N ∧ s2 = .int .i64 i ∧ Hid (Gro w B lab 9 162 122 2 s mkE i wr))
  case atStart => exact ⟨0, by omega, rfl, Lib.hid hF⟩
  case round =>
    clear hF
    obtain ⟨i, hg, rfl, HF⟩ := hrel
    have k1 := (cell_of_row wr bk 9 _ _ _ (turned_book HF.out.turned HNB.out HBK.out)).trans HJ.out
    cases gk with
    | zero =>
      obtain rfl : i = s.N := by omega
      go_wp2
      refine bodyPost_end (v := .tuple #[]) (by kernel_rfl) rfl ?_
      exact ⟨rfl, HF.out⟩
    | succ g =>
      obtain ⟨gs, c', l, e1, c0, c1, c2, hl⟩ := HF.out.head (x := i) (by omega)
      rw [HSV.out] at e1
      cases e1
      obtain ⟨Av, cv, hv⟩ := HV.out i (by omega)
      rw [hv] at c0
      rw [hl (Nat.le_refl _)] at c1
      have hd : decide (i < s.N) = true := decide_eq_true (by omega)
      go_upto_region 4 with fail
      have hin := HF.out.into (show i < s.N by omega) (.cells #[.slice Av (s.R i).length cv, .slice none 0 0, .int .i64 (s.num i)] 162)
      rw [hv] at hin
      obtain ⟨wb, hwb⟩ : ∃ x, x = wr.alloc (.cells #[.slice Av (s.R i).length cv, .slice none 0 0, .int .i64 (s.num i)] 162) := ⟨_, rfl⟩
      rw [← hwb] at hin
      rw [← hwb]
      obtain ⟨hb, hhb⟩ : ∃ x, x = wr.heap.size := ⟨_, rfl⟩
      rw [← hhb] at hin
      rw [← hhb]
      have hb0 := cell_of_row wb hb 0 _ _ _ hin.box
      have HN := Lib.hid (HNUM.out i (by omega))
      have HLI := Lib.hid (HL.out i (by omega))
      have HIN := Lib.hid hin
      clear hwb hhb k1 c0 c1 c2 HF hin
      go_wp2
      go_loopg [4, 5] 40 (fun g s4 s5 wi => ∃ k : Nat, k + g = 40 ∧ s5 = .int .i64 k ∧ Hid (GroIn w B lab 9 162 122 2 s mkE i k s4 hb (.cells #[.slice Av (s.R i).length cv, .slice none 0 0, .int .i64 (s.num i)] 162 (0, 0)) wi))
      case atStart => exact ⟨0, by omega, rfl, HIN⟩
      case round =>
        clear HIN hb0
        obtain ⟨k, hkg, rfl, HF⟩ := hrel
        obtain ⟨A4, c4, h4⟩ := own_len HF.out.own
        rw [List.length_append, List.length_replicate] at h4
        subst h4
        cases gk with
        | zero =>
          obtain rfl : k = 40 := by omega
          have k1 := (cell_of_row wr bk 9 _ _ _ (turned_book HF.out.turned HNB.out HBK.out)).trans HJ.out
          obtain ⟨gs', c', l', e1, c1, f1⟩ := HF.out.head
          rw [HSV.out] at e1
          cases e1
          go_wp2
          go_roundg g
          case measure => omega
          case rel => exact ⟨i + 1, by omega, by go_num, Lib.hid (HF.out.out HSV.out)⟩
        | succ gg =>
          have c2 : wr.cell? ⟨hb, 2, none⟩ = some (.int .i64 (s.num i)) := cell_of_row wr hb 2 _ _ _ HF.out.box
          go_wp2_with (first
            | (go_at_call 112
               refine (markEntry_lit (s.num i) HN.out _).mono ?_
               rintro _ w1 ⟨rfl, hb1⟩
               have HF1 := Lib.hid (HF.out.keep hb1)
               have hB1 : B ≤ w1.heap.size := Nat.le_trans hB (Nat.le_trans HF.out.turned.size hb1.size)
               have HH1 := Lib.hid hb1
               clear hb1)
            | (at_builtin
               refine wpList_append_grow rfl _ _ 72 rfl elem_rEntry ((s.R i).length + k) (by rw [List.length_append, List.length_replicate]) (mkE (s.num i)) rfl HF1.out.own hB1 rfl rfl (by simp [mkE, Value.oneCell']) (by have := HLI.out; unfold maxLen; omega) (by have := HLI.out; omega) ?_
               rintro _ w2 hown2 hg2 hv2 ⟨A5, c5, rfl⟩
               have HF2 := Lib.hid (HF1.out.step hown2 hg2 hv2)
               clear hown2 hg2 hv2))
          go_roundg gg
          case measure => omega
          case rel => exact ⟨k + 1, by omega, by go_num, HF2⟩
set_option maxHeartbeats 2000000 in
theorem growNode_calls (w : World) (B bk : Nat) (lab : Lab) (cs : Array Value) (s : KS) (hB : B ≤ w.heap.size) (hbk : w.heap[bk]? = some (.cells cs 35 (0, 0))) (hj : cs[10]? = some s.sv) (hlb : lab bk = (0, 1)) (hk : Kind w B lab 10 165 74 10 s) (h0 : s.d = 0) (hnum : ∀ x, x < s.N → 0 ≤ s.num x ∧ s.num x < 100) (hN : s.N ≤ 1000000) (hlen : ∀ x, x < s.N → (s.R x).length ≤ 1000000) (fresh : ∀ k, w.heap.size ≤ k → lab k = (0, 0)) :
    Calls Tryz.prog 58 #[.pointer (some ⟨bk, 0, none⟩)] w fun e w' => e = .returned (.tuple #[]) ∧ Gro w B lab 10 165 74 10 s mkN s.N w' := by
  have hF := Gro.start mkN hk h0 fresh
  have hV : ∀ x, x < s.N → ∃ A c, s.V x = .slice A (s.R x).length c := fun x hx => own_len (hk.todo x (by omega) hx).1
  obtain ⟨A, c, hsv⟩ := own_len hk.held
  rw [s.rows_length] at hsv
  rw [hsv] at hj
  have hnb : ¬ (lab bk).1 = 10 := by rw [hlb]; decide
  have HBK := Lib.hid hbk
  have HJ := Lib.hid hj
  have HNB := Lib.hid hnb
  have HNUM := Lib.hid hnum
  have HSV := Lib.hid hsv
  have HV := Lib.hid hV
  have HL := Lib.hid hlen
  clear hbk hj hlb hnum h0 hk hsv hV hlen fresh hnb
  go_enter Tryz.func58, Tryz.ntmps58
  go_wp2
  go_loopg [2] s.N (fun g s2 wr => ∃ i : Nat, i + g = s.N ∧ s2 = .int .i64 i ∧ Hid (Gro w B lab 10 165 74 10 s mkN i wr))
  case atStart => exact ⟨0, by omega, rfl, Lib.hid hF⟩
  case round =>
    clear hF
    obtain ⟨i, hg, rfl, HF⟩ := hrel
    have k1 := (cell_of_row wr bk 10 _ _ _ (turned_book HF.out.turned HNB.out HBK.out)).trans HJ.out
    cases gk with
    | zero =>
      obtain rfl : i = s.N := by omega
      go_wp2
      refine bodyPost_end (v := .tuple #[]) (by kernel_rfl) rfl ?_
      exact ⟨rfl, HF.out⟩
    | succ g =>
      obtain ⟨gs, c', l, e1, c0, c1, c2, hl⟩ := HF.out.head (x := i) (by omega)
      rw [HSV.out] at e1
      cases e1
      obtain ⟨Av, cv, hv⟩ := HV.out i (by omega)
      rw [hv] at c0
      rw [hl (Nat.le_refl _)] at c1
      have hd : decide (i < s.N) = true := decide_eq_true (by omega)
      go_upto_region 4 with fail
      have hin := HF.out.into (show i < s.N by omega) (.cells #[.slice Av (s.R i).length cv, .slice none 0 0, .int .i64 (s.num i)] 165)
      rw [hv] at hin
      obtain ⟨wb, hwb⟩ : ∃ x, x = wr.alloc (.cells #[.slice Av (s.R i).length cv, .slice none 0 0, .int .i64 (s.num i)] 165) := ⟨_, rfl⟩
      rw [← hwb] at hin
      rw [← hwb]
      obtain ⟨hb, hhb⟩ : ∃ x, x = wr.heap.size := ⟨_, rfl⟩
      rw [← hhb] at hin
      rw [← hhb]
      have hb0 := cell_of_row wb hb 0 _ _ _ hin.box
      have HN := Lib.hid (HNUM.out i (by omega))
      have HLI := Lib.hid (HL.out i (by omega))
      have HIN := Lib.hid hin
      clear hwb hhb k1 c0 c1 c2 HF hin
      go_wp2
      go_loopg [4, 5] 40 (fun g s4 s5 wi => ∃ k : Nat, k + g = 40 ∧ s5 = .int .i64 k ∧ Hid (GroIn w B lab 10 165 74 10 s mkN i k s4 hb (.cells #[.slice Av (s.R i).length cv, .slice none 0 0, .int .i64 (s.num i)] 165 (0, 0)) wi))
      case atStart => exact ⟨0, by omega, rfl, HIN⟩
      case round =>
        clear HIN hb0
        obtain ⟨k, hkg, rfl, HF⟩ := hrel
        obtain ⟨A4, c4, h4⟩ := own_len HF.out.own
        rw [List.length_append, List.length_replicate] at h4
        subst h4
        cases gk with
        | zero =>
          obtain rfl : k = 40 := by omega
          have k1 := (cell_of_row wr bk 10 _ _ _ (turned_book HF.out.turned HNB.out HBK.out)).trans HJ.out
          obtain ⟨gs', c', l', e1, c1, f1⟩ := HF.out.head
          rw [HSV.out] at e1
          cases e1
          go_wp2
          go_roundg g
          case measure => omega
          case rel => exact ⟨i + 1, by omega, by go_num, Lib.hid (HF.out.out HSV.out)⟩
        | succ gg =>
          have c2 : wr.cell? ⟨hb, 2, none⟩ = some (.int .i64 (s.num i)) := cell_of_row wr hb 2 _ _ _ HF.out.box
          go_wp2_with (first
            | (go_at_call 113
               refine (markNode_lit (s.num i) HN.out _).mono ?_
               rintro _ w1 ⟨rfl, hb1⟩
               have HF1 := Lib.hid (HF.out.keep hb1)
               have hB1 : B ≤ w1.heap.size := Nat.le_trans hB (Nat.le_trans HF.out.turned.size hb1.size)
               have HH1 := Lib.hid hb1
               clear hb1)
            | (at_builtin
               refine wpList_append_grow rfl _ _ 36 rfl elem_rNode ((s.R i).length + k) (by rw [List.length_append, List.length_replicate]) (mkN (s.num i)) rfl HF1.out.own hB1 rfl rfl (by simp [mkN, Value.oneCell']) (by have := HLI.out; unfold maxLen; omega) (by have := HLI.out; omega) ?_
               rintro _ w2 hown2 hg2 hv2 ⟨A5, c5, rfl⟩
               have HF2 := Lib.hid (HF1.out.step hown2 hg2 hv2)
               clear hown2 hg2 hv2))
          go_roundg gg
          case measure => omega
          case rel => exact ⟨k + 1, by omega, by go_num, HF2⟩
end Go.Proofs.YtdceechakocgfaaGreatDoor
