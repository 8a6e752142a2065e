/- The Book: each list of a kind is looked at. -/
import Derived.Test.YtbfcfjgcmideeaaGreatDoorB1
import Derived.Test.YtbfcfjgcmideeaaGreatDoorK1
namespace Go.Proofs.YtbfcfjgcmideeaaGreatDoor
open Go.RowKit
attribute [local go_sem] Later.cell_eq
theorem Rd.keep {w w' : World} {B z : Nat} {v : Value} {rows : List (List Value)} (h : Rd w B z v rows) (hb : Below w.heap.size w w') : Rd w' B z v rows := h.turned (turned_below (S := fun _ => False) hb) fun _ _ h => h
theorem Rd.slice {w : World} {B z : Nat} {v : Value} {rows : List (List Value)} (h : Rd w B z v rows) : ∃ A c, v = .slice A rows.length c := by
  rcases h with ⟨h1, h2⟩ | ⟨g, c, h1, -⟩
  · exact ⟨none, 0, by rw [h1, h2]; rfl⟩
  · exact ⟨_, _, h1⟩
theorem Rd.at {w : World} {B z : Nat} {A : Option Addr} {l c n k : Nat} {row : List Value} (h : Rd w B z (.slice A l c) (List.replicate n row)) (hk : k < n) : ∃ g, A = some ⟨g, 0, none⟩ ∧ g < w.heap.size ∧ ∀ j u, row[j]? = some u → w.cell? ⟨g, k * z + j, none⟩ = some u := by
  rcases h with ⟨-, h2⟩ | ⟨g, c', h1, -, -, h3, h4⟩
  · have := congrArg List.length h2
    simp at this; omega
  · cases h1
    refine ⟨g, rfl, h3, fun j u hu => ?_⟩
    have := h4 k row (by rw [List.getElem?_replicate, if_pos hk]) j u hu
    rwa [Nat.zero_add] at this
theorem rdByte {w : World} {B : Nat} {A : Option Addr} {l c n k : Nat} {m : Int} (h : Rd w B 1 (.slice A l c) (List.replicate n (mkB m))) (hk : k < n) : ∃ g, A = some ⟨g, 0, none⟩ ∧ g < w.heap.size ∧ w.cell? ⟨g, k, none⟩ = some (.int .u8 (1 + m % 250)) := by
  obtain ⟨g, h1, h2, h3⟩ := h.at hk
  have := h3 0 _ rfl
  rw [Nat.mul_one, Nat.add_zero] at this
  exact ⟨g, h1, h2, this⟩
theorem rdEntry {w : World} {B : Nat} {A : Option Addr} {l c n k : Nat} {m : Int} (h : Rd w B 2 (.slice A l c) (List.replicate n (mkE m))) (hk : k < n) : ∃ g, A = some ⟨g, 0, none⟩ ∧ g < w.heap.size ∧ w.cell? ⟨g, k * 2, none⟩ = some (.string (wordS m)) ∧ w.cell? ⟨g, k * 2 + 1, none⟩ = some (.int .i64 0) := by
  obtain ⟨g, h1, h2, h3⟩ := h.at hk
  exact ⟨g, h1, h2, h3 0 _ rfl, h3 1 _ rfl⟩
theorem rdInt {w : World} {B : Nat} {A : Option Addr} {l c n k : Nat} {m : Int} (h : Rd w B 1 (.slice A l c) (List.replicate n (mkI m))) (hk : k < n) : ∃ g, A = some ⟨g, 0, none⟩ ∧ g < w.heap.size ∧ w.cell? ⟨g, k, none⟩ = some (.int .i64 (-1000 - m)) := by
  obtain ⟨g, h1, h2, h3⟩ := h.at hk
  have := h3 0 _ rfl
  rw [Nat.mul_one, Nat.add_zero] at this
  exact ⟨g, h1, h2, this⟩
theorem rdText {w : World} {B : Nat} {A : Option Addr} {l c n k : Nat} {m : Int} (h : Rd w B 1 (.slice A l c) (List.replicate n (mkT m))) (hk : k < n) : ∃ g, A = some ⟨g, 0, none⟩ ∧ g < w.heap.size ∧ w.cell? ⟨g, k, none⟩ = some (.string (wordS m)) := by
  obtain ⟨g, h1, h2, h3⟩ := h.at hk
  have := h3 0 _ rfl
  rw [Nat.mul_one, Nat.add_zero] at this
  exact ⟨g, h1, h2, this⟩
theorem rdStep {w : World} {B : Nat} {A : Option Addr} {l c n k : Nat} {m : Int} (h : Rd w B 4 (.slice A l c) (List.replicate n (mkS m))) (hk : k < n) : ∃ g, A = some ⟨g, 0, none⟩ ∧ g < w.heap.size ∧ w.cell? ⟨g, k * 4, none⟩ = some (.string (wordS m)) ∧ w.cell? ⟨g, k * 4 + 1, none⟩ = some (.int .i64 0) ∧ w.cell? ⟨g, k * 4 + 2, none⟩ = some (.int .i64 0) ∧ w.cell? ⟨g, k * 4 + 3, none⟩ = some (.bool false) := by
  obtain ⟨g, h1, h2, h3⟩ := h.at hk
  exact ⟨g, h1, h2, h3 0 _ rfl, h3 1 _ rfl, h3 2 _ rfl, h3 3 _ rfl⟩
theorem rdNode {w : World} {B : Nat} {A : Option Addr} {l c n k : Nat} {m : Int} (h : Rd w B 10 (.slice A l c) (List.replicate n (mkN m))) (hk : k < n) : ∃ g, A = some ⟨g, 0, none⟩ ∧ g < w.heap.size ∧ w.cell? ⟨g, k * 10, none⟩ = some (.int .u8 0) ∧ w.cell? ⟨g, k * 10 + 1, none⟩ = some (.int .i64 (-1000 - m)) ∧ w.cell? ⟨g, k * 10 + 2, none⟩ = some (.int .i64 0) ∧ w.cell? ⟨g, k * 10 + 3, none⟩ = some (.int .i64 0) ∧ w.cell? ⟨g, k * 10 + 4, none⟩ = some (.int .i64 0) ∧ w.cell? ⟨g, k * 10 + 5, none⟩ = some (.int .i64 0) ∧ w.cell? ⟨g, k * 10 + 6, none⟩ = some (.slice none 0 0) ∧ w.cell? ⟨g, k * 10 + 7, none⟩ = some (.string ⟨#[]⟩) ∧ w.cell? ⟨g, k * 10 + 8, none⟩ = some (.slice none 0 0) ∧ w.cell? ⟨g, k * 10 + 9, none⟩ = some (.int .i64 0) := by
  obtain ⟨g, h1, h2, h3⟩ := h.at hk
  exact ⟨g, h1, h2, h3 0 _ rfl, h3 1 _ rfl, h3 2 _ rfl, h3 3 _ rfl, h3 4 _ rfl, h3 5 _ rfl, h3 6 _ rfl, h3 7 _ rfl, h3 8 _ rfl, h3 9 _ rfl⟩
/-- What is looked for: each list, and what it was grown to, is full of its mark. -/
def Marked (w : World) (B z : Nat) (s : KS) (mk : Int → List Value) : Prop :=
  ∀ x, x < s.N → NumOK w (s.num x) ∧ ∃ n, n ≤ 1000000 ∧ Rd w B z (s.V x) (List.replicate n (mk (s.num x))) ∧ Rd w B z (s.L x) (List.replicate (n + 40) (mk (s.num x)))
set_option maxHeartbeats 2000000 in
theorem lookByte_calls (w : World) (B bk : Nat) (lab : Lab) (cs : Array Value) (s : KS) (hbk : w.heap[bk]? = some (.cells cs 53 (0, 0))) (hj : cs[1]? = some s.sv) (hk : Kind w B lab 1 181 5 1 s) (hm : Marked w B 1 s mkB) (hN : s.N ≤ 1000000) :
    Calls Tryz.prog 96 #[.pointer (some ⟨bk, 0, none⟩)] w fun e w' => e = .returned (.bool true) ∧ Below w.heap.size w w' := by
  obtain ⟨A, c, hsv⟩ := own_len hk.held
  rw [s.rows_length] at hsv
  rw [hsv] at hj
  have k1 := (cell_of_row w bk 1 _ _ _ hbk).trans hj
  have HK := Lib.hid hk
  have HM := Lib.hid hm
  have HSV := Lib.hid hsv
  clear hbk hj hk hm hsv
  go_enter Tryz.func96, Tryz.ntmps96
  go_wp2
  go_loopg [3] s.N (fun g s3 wr => ∃ i : Nat, i + g = s.N ∧ s3 = .int .i64 i ∧ Below w.heap.size w wr)
  case atStart => exact ⟨0, by omega, rfl, Below.refl _ _⟩
  case round =>
    obtain ⟨i, hg, rfl, hbw⟩ := hrel
    replace k1 := cell_keep hbw k1
    cases gk with
    | zero =>
      obtain rfl : i = s.N := by omega
      go_wp2
      go_ret
      exact ⟨rfl, hbw⟩
    | succ g =>
      obtain ⟨gs, c', e1, c0, c1, c2⟩ := HK.out.head (x := i) (by omega)
      rw [HSV.out] at e1
      cases e1
      replace c0 := cell_keep hbw c0
      replace c1 := cell_keep hbw c1
      replace c2 := cell_keep hbw c2
      obtain ⟨hnum, n, hn, hr1, hr2⟩ := HM.out i (by omega)
      replace hr1 := hr1.keep hbw
      replace hr2 := hr2.keep hbw
      obtain ⟨Av, cv, hv⟩ := hr1.slice
      obtain ⟨Al, cl, hl⟩ := hr2.slice
      rw [List.length_replicate] at hv hl
      rw [hv] at c0 hr1
      rw [hl] at c1 hr2
      have hd : decide (i < s.N) = true := decide_eq_true (by omega)
      go_upto_region 5 with fail
      obtain ⟨wb, hwb⟩ : ∃ x, x = wr.alloc (.cells #[.slice Av n cv, .slice Al (n + 40) cl, .int .i64 (s.num i)] 181) := ⟨_, rfl⟩
      have hB0 : Below wr.heap.size wr wb := by rw [hwb]; exact below_alloc (Below.refl _ _) _
      have hl0 : wr.heap.size < wb.heap.size := by rw [hwb]; simp
      have b0 : wb.cell? ⟨wr.heap.size, 0, none⟩ = some (.slice Av n cv) := by rw [hwb, cell_of_row _ _ _ _ _ _ (heap_alloc_new wr _)]; rfl
      have b1 : wb.cell? ⟨wr.heap.size, 1, none⟩ = some (.slice Al (n + 40) cl) := by rw [hwb, cell_of_row _ _ _ _ _ _ (heap_alloc_new wr _)]; rfl
      have b2 : wb.cell? ⟨wr.heap.size, 2, none⟩ = some (.int .i64 (s.num i)) := by rw [hwb, cell_of_row _ _ _ _ _ _ (heap_alloc_new wr _)]; rfl
      rw [← hwb]
      obtain ⟨hb, hhb⟩ : ∃ x, x = wr.heap.size := ⟨_, rfl⟩
      have HR1 := Lib.hid (hr1.keep hB0)
      have HR2 := Lib.hid (hr2.keep hB0)
      have hBw : Below w.heap.size w wb := below_step hbw hB0
      rw [← hhb] at b0 b1 b2 hl0
      rw [← hhb]
      have HNU := Lib.hid hnum
      clear hwb hhb k1 c0 c1 c2 hr1 hr2 hB0 hbw hv hl hnum
      go_wp2
      go_loopg [5] (n + 40) (fun gg s5 wi => ∃ k : Nat, k + gg = n + 40 ∧ s5 = .int .i64 k ∧ Below wb.heap.size wb wi)
      case atStart => exact ⟨0, by omega, rfl, Below.refl _ _⟩
      case round =>
        obtain ⟨k, hkg, rfl, hbi⟩ := hrel
        replace b0 := cell_keep hbi b0
        replace b1 := cell_keep hbi b1
        replace b2 := cell_keep hbi b2
        have hlw : hb < wr.heap.size := Nat.lt_of_lt_of_le hl0 hbi.size
        cases gk with
        | zero =>
          obtain rfl : k = n + 40 := by omega
          go_wp2
          go_roundg g
          case measure => omega
          case rel => exact ⟨i + 1, by omega, by go_num, below_step hBw hbi⟩
        | succ gg =>
          have hkm : k < n + 40 := by omega
          have hr2 := (HR2.out.keep hbi)
          obtain ⟨gl, rfl, hgl, e0⟩ := rdByte hr2 hkm
          clear hr2
          go_upto_region 10 with fail
          obtain ⟨wo, rfl⟩ : ∃ wo : World, wo = wr := ⟨_, rfl⟩
          have hdl : decide (k < n + 40) = true := decide_eq_true hkm
          have HNW := Lib.hid ((HNU.out.keep hBw).keep hbi)
          by_cases hkn : k < n
          · have hdk : decide (k < n) = true := decide_eq_true hkn
            have hdi : decide ((k : Int) < (n : Int)) = true := decide_eq_true (by omega)
            have hr1 := (HR1.out.keep hbi)
            obtain ⟨gv, rfl, hgv, d0⟩ := rdByte hr1 hkn
            clear hr1
            refine wp_region_later (by kernel_rfl) (by kernel_rfl) ?_
            repeat (go_big_quiet_step ((exact Calls.later (isByte_calls (s.num i) ⟨HNU.out.1, HNU.out.2.1⟩ _))))
            refine wpQuiet_nil ?_
            intro wL hbL
            go_wp2
            go_roundg gg
            case measure => omega
            case rel => exact ⟨k + 1, by omega, by go_num, below_step hbi hbL⟩
          · have hdk : decide (k < n) = false := decide_eq_false hkn
            have hdi : decide ((k : Int) < (n : Int)) = false := decide_eq_false (by omega)
            refine wp_region_later (by kernel_rfl) (by kernel_rfl) ?_
            repeat (go_big_quiet_step ((exact Calls.later (isByte_calls (s.num i) ⟨HNU.out.1, HNU.out.2.1⟩ _))))
            refine wpQuiet_nil ?_
            intro wL hbL
            go_wp2
            go_roundg gg
            case measure => omega
            case rel => exact ⟨k + 1, by omega, by go_num, below_step hbi hbL⟩
set_option maxHeartbeats 2000000 in
theorem lookInt_calls (w : World) (B bk : Nat) (lab : Lab) (cs : Array Value) (s : KS) (hbk : w.heap[bk]? = some (.cells cs 53 (0, 0))) (hj : cs[2]? = some s.sv) (hk : Kind w B lab 2 184 3 1 s) (hm : Marked w B 1 s mkI) (hN : s.N ≤ 1000000) :
    Calls Tryz.prog 97 #[.pointer (some ⟨bk, 0, none⟩)] w fun e w' => e = .returned (.bool true) ∧ Below w.heap.size w w' := by
  obtain ⟨A, c, hsv⟩ := own_len hk.held
  rw [s.rows_length] at hsv
  rw [hsv] at hj
  have k1 := (cell_of_row w bk 2 _ _ _ hbk).trans hj
  have HK := Lib.hid hk
  have HM := Lib.hid hm
  have HSV := Lib.hid hsv
  clear hbk hj hk hm hsv
  go_enter Tryz.func97, Tryz.ntmps97
  go_wp2
  go_loopg [3] s.N (fun g s3 wr => ∃ i : Nat, i + g = s.N ∧ s3 = .int .i64 i ∧ Below w.heap.size w wr)
  case atStart => exact ⟨0, by omega, rfl, Below.refl _ _⟩
  case round =>
    obtain ⟨i, hg, rfl, hbw⟩ := hrel
    replace k1 := cell_keep hbw k1
    cases gk with
    | zero =>
      obtain rfl : i = s.N := by omega
      go_wp2
      go_ret
      exact ⟨rfl, hbw⟩
    | succ g =>
      obtain ⟨gs, c', e1, c0, c1, c2⟩ := HK.out.head (x := i) (by omega)
      rw [HSV.out] at e1
      cases e1
      replace c0 := cell_keep hbw c0
      replace c1 := cell_keep hbw c1
      replace c2 := cell_keep hbw c2
      obtain ⟨hnum, n, hn, hr1, hr2⟩ := HM.out i (by omega)
      replace hr1 := hr1.keep hbw
      replace hr2 := hr2.keep hbw
      obtain ⟨Av, cv, hv⟩ := hr1.slice
      obtain ⟨Al, cl, hl⟩ := hr2.slice
      rw [List.length_replicate] at hv hl
      rw [hv] at c0 hr1
      rw [hl] at c1 hr2
      have hd : decide (i < s.N) = true := decide_eq_true (by omega)
      go_upto_region 5 with fail
      obtain ⟨wb, hwb⟩ : ∃ x, x = wr.alloc (.cells #[.slice Av n cv, .slice Al (n + 40) cl, .int .i64 (s.num i)] 184) := ⟨_, rfl⟩
      have hB0 : Below wr.heap.size wr wb := by rw [hwb]; exact below_alloc (Below.refl _ _) _
      have hl0 : wr.heap.size < wb.heap.size := by rw [hwb]; simp
      have b0 : wb.cell? ⟨wr.heap.size, 0, none⟩ = some (.slice Av n cv) := by rw [hwb, cell_of_row _ _ _ _ _ _ (heap_alloc_new wr _)]; rfl
      have b1 : wb.cell? ⟨wr.heap.size, 1, none⟩ = some (.slice Al (n + 40) cl) := by rw [hwb, cell_of_row _ _ _ _ _ _ (heap_alloc_new wr _)]; rfl
      have b2 : wb.cell? ⟨wr.heap.size, 2, none⟩ = some (.int .i64 (s.num i)) := by rw [hwb, cell_of_row _ _ _ _ _ _ (heap_alloc_new wr _)]; rfl
      rw [← hwb]
      obtain ⟨hb, hhb⟩ : ∃ x, x = wr.heap.size := ⟨_, rfl⟩
      have HR1 := Lib.hid (hr1.keep hB0)
      have HR2 := Lib.hid (hr2.keep hB0)
      have hBw : Below w.heap.size w wb := below_step hbw hB0
      rw [← hhb] at b0 b1 b2 hl0
      rw [← hhb]
      have HNU := Lib.hid hnum
      clear hwb hhb k1 c0 c1 c2 hr1 hr2 hB0 hbw hv hl hnum
      go_wp2
      go_loopg [5] (n + 40) (fun gg s5 wi => ∃ k : Nat, k + gg = n + 40 ∧ s5 = .int .i64 k ∧ Below wb.heap.size wb wi)
      case atStart => exact ⟨0, by omega, rfl, Below.refl _ _⟩
      case round =>
        obtain ⟨k, hkg, rfl, hbi⟩ := hrel
        replace b0 := cell_keep hbi b0
        replace b1 := cell_keep hbi b1
        replace b2 := cell_keep hbi b2
        have hlw : hb < wr.heap.size := Nat.lt_of_lt_of_le hl0 hbi.size
        cases gk with
        | zero =>
          obtain rfl : k = n + 40 := by omega
          go_wp2
          go_roundg g
          case measure => omega
          case rel => exact ⟨i + 1, by omega, by go_num, below_step hBw hbi⟩
        | succ gg =>
          have hkm : k < n + 40 := by omega
          have hr2 := (HR2.out.keep hbi)
          obtain ⟨gl, rfl, hgl, e0⟩ := rdInt hr2 hkm
          clear hr2
          go_upto_region 10 with fail
          obtain ⟨wo, rfl⟩ : ∃ wo : World, wo = wr := ⟨_, rfl⟩
          have hdl : decide (k < n + 40) = true := decide_eq_true hkm
          have HNW := Lib.hid ((HNU.out.keep hBw).keep hbi)
          by_cases hkn : k < n
          · have hdk : decide (k < n) = true := decide_eq_true hkn
            have hdi : decide ((k : Int) < (n : Int)) = true := decide_eq_true (by omega)
            have hr1 := (HR1.out.keep hbi)
            obtain ⟨gv, rfl, hgv, d0⟩ := rdInt hr1 hkn
            clear hr1
            refine wp_region_later (by kernel_rfl) (by kernel_rfl) ?_
            repeat (go_big_quiet_step ((exact Calls.later (isInt_calls (s.num i) ⟨HNU.out.1, HNU.out.2.1⟩ _))))
            refine wpQuiet_nil ?_
            intro wL hbL
            go_wp2
            go_roundg gg
            case measure => omega
            case rel => exact ⟨k + 1, by omega, by go_num, below_step hbi hbL⟩
          · have hdk : decide (k < n) = false := decide_eq_false hkn
            have hdi : decide ((k : Int) < (n : Int)) = false := decide_eq_false (by omega)
            refine wp_region_later (by kernel_rfl) (by kernel_rfl) ?_
            repeat (go_big_quiet_step ((exact Calls.later (isInt_calls (s.num i) ⟨HNU.out.1, HNU.out.2.1⟩ _))))
            refine wpQuiet_nil ?_
            intro wL hbL
            go_wp2
            go_roundg gg
            case measure => omega
            case rel => exact ⟨k + 1, by omega, by go_num, below_step hbi hbL⟩
set_option maxHeartbeats 2000000 in
theorem lookText_calls (w : World) (B bk : Nat) (lab : Lab) (cs : Array Value) (s : KS) (hbk : w.heap[bk]? = some (.cells cs 53 (0, 0))) (hj : cs[3]? = some s.sv) (hk : Kind w B lab 3 179 9 1 s) (hm : Marked w B 1 s mkT) (hN : s.N ≤ 1000000) :
    Calls Tryz.prog 98 #[.pointer (some ⟨bk, 0, none⟩)] w fun e w' => e = .returned (.bool true) ∧ Below w.heap.size w w' := by
  obtain ⟨A, c, hsv⟩ := own_len hk.held
  rw [s.rows_length] at hsv
  rw [hsv] at hj
  have k1 := (cell_of_row w bk 3 _ _ _ hbk).trans hj
  have HK := Lib.hid hk
  have HM := Lib.hid hm
  have HSV := Lib.hid hsv
  clear hbk hj hk hm hsv
  go_enter Tryz.func98, Tryz.ntmps98
  go_wp2
  go_loopg [3] s.N (fun g s3 wr => ∃ i : Nat, i + g = s.N ∧ s3 = .int .i64 i ∧ Below w.heap.size w wr)
  case atStart => exact ⟨0, by omega, rfl, Below.refl _ _⟩
  case round =>
    obtain ⟨i, hg, rfl, hbw⟩ := hrel
    replace k1 := cell_keep hbw k1
    cases gk with
    | zero =>
      obtain rfl : i = s.N := by omega
      go_wp2
      go_ret
      exact ⟨rfl, hbw⟩
    | succ g =>
      obtain ⟨gs, c', e1, c0, c1, c2⟩ := HK.out.head (x := i) (by omega)
      rw [HSV.out] at e1
      cases e1
      replace c0 := cell_keep hbw c0
      replace c1 := cell_keep hbw c1
      replace c2 := cell_keep hbw c2
      obtain ⟨hnum, n, hn, hr1, hr2⟩ := HM.out i (by omega)
      replace hr1 := hr1.keep hbw
      replace hr2 := hr2.keep hbw
      obtain ⟨Av, cv, hv⟩ := hr1.slice
      obtain ⟨Al, cl, hl⟩ := hr2.slice
      rw [List.length_replicate] at hv hl
      rw [hv] at c0 hr1
      rw [hl] at c1 hr2
      have hd : decide (i < s.N) = true := decide_eq_true (by omega)
      go_upto_region 5 with fail
      obtain ⟨wb, hwb⟩ : ∃ x, x = wr.alloc (.cells #[.slice Av n cv, .slice Al (n + 40) cl, .int .i64 (s.num i)] 179) := ⟨_, rfl⟩
      have hB0 : Below wr.heap.size wr wb := by rw [hwb]; exact below_alloc (Below.refl _ _) _
      have hl0 : wr.heap.size < wb.heap.size := by rw [hwb]; simp
      have b0 : wb.cell? ⟨wr.heap.size, 0, none⟩ = some (.slice Av n cv) := by rw [hwb, cell_of_row _ _ _ _ _ _ (heap_alloc_new wr _)]; rfl
      have b1 : wb.cell? ⟨wr.heap.size, 1, none⟩ = some (.slice Al (n + 40) cl) := by rw [hwb, cell_of_row _ _ _ _ _ _ (heap_alloc_new wr _)]; rfl
      have b2 : wb.cell? ⟨wr.heap.size, 2, none⟩ = some (.int .i64 (s.num i)) := by rw [hwb, cell_of_row _ _ _ _ _ _ (heap_alloc_new wr _)]; rfl
      rw [← hwb]
      obtain ⟨hb, hhb⟩ : ∃ x, x = wr.heap.size := ⟨_, rfl⟩
      have HR1 := Lib.hid (hr1.keep hB0)
      have HR2 := Lib.hid (hr2.keep hB0)
      have hBw : Below w.heap.size w wb := below_step hbw hB0
      rw [← hhb] at b0 b1 b2 hl0
      rw [← hhb]
      have HNU := Lib.hid hnum
      clear hwb hhb k1 c0 c1 c2 hr1 hr2 hB0 hbw hv hl hnum
      go_wp2
      go_loopg [5] (n + 40) (fun gg s5 wi => ∃ k : Nat, k + gg = n + 40 ∧ s5 = .int .i64 k ∧ Below wb.heap.size wb wi)
      case atStart => exact ⟨0, by omega, rfl, Below.refl _ _⟩
      case round =>
        obtain ⟨k, hkg, rfl, hbi⟩ := hrel
        replace b0 := cell_keep hbi b0
        replace b1 := cell_keep hbi b1
        replace b2 := cell_keep hbi b2
        have hlw : hb < wr.heap.size := Nat.lt_of_lt_of_le hl0 hbi.size
        cases gk with
        | zero =>
          obtain rfl : k = n + 40 := by omega
          go_wp2
          go_roundg g
          case measure => omega
          case rel => exact ⟨i + 1, by omega, by go_num, below_step hBw hbi⟩
        | succ gg =>
          have hkm : k < n + 40 := by omega
          have hr2 := (HR2.out.keep hbi)
          obtain ⟨gl, rfl, hgl, e0⟩ := rdText hr2 hkm
          clear hr2
          go_upto_region 10 with fail
          obtain ⟨wo, rfl⟩ : ∃ wo : World, wo = wr := ⟨_, rfl⟩
          have hdl : decide (k < n + 40) = true := decide_eq_true hkm
          have HNW := Lib.hid ((HNU.out.keep hBw).keep hbi)
          by_cases hkn : k < n
          · have hdk : decide (k < n) = true := decide_eq_true hkn
            have hdi : decide ((k : Int) < (n : Int)) = true := decide_eq_true (by omega)
            have hr1 := (HR1.out.keep hbi)
            obtain ⟨gv, rfl, hgv, d0⟩ := rdText hr1 hkn
            clear hr1
            refine wp_region_later (by kernel_rfl) (by kernel_rfl) ?_
            repeat (go_big_quiet_step ((exact Calls.later (isText_calls (s.num i) _ (HNW.out.keep (Later.h _))))))
            refine wpQuiet_nil ?_
            intro wL hbL
            go_wp2
            go_roundg gg
            case measure => omega
            case rel => exact ⟨k + 1, by omega, by go_num, below_step hbi hbL⟩
          · have hdk : decide (k < n) = false := decide_eq_false hkn
            have hdi : decide ((k : Int) < (n : Int)) = false := decide_eq_false (by omega)
            refine wp_region_later (by kernel_rfl) (by kernel_rfl) ?_
            repeat (go_big_quiet_step ((exact Calls.later (isText_calls (s.num i) _ (HNW.out.keep (Later.h _))))))
            refine wpQuiet_nil ?_
            intro wL hbL
            go_wp2
            go_roundg gg
            case measure => omega
            case rel => exact ⟨k + 1, by omega, by go_num, below_step hbi hbL⟩
set_option maxHeartbeats 2000000 in
theorem lookEntry_calls (w : World) (B bk : Nat) (lab : Lab) (cs : Array Value) (s : KS) (hbk : w.heap[bk]? = some (.cells cs 53 (0, 0))) (hj : cs[9]? = some s.sv) (hk : Kind w B lab 9 214 162 2 s) (hm : Marked w B 2 s mkE) (hN : s.N ≤ 1000000) :
    Calls Tryz.prog 104 #[.pointer (some ⟨bk, 0, none⟩)] w fun e w' => e = .returned (.bool true) ∧ Below w.heap.size w w' := by
  obtain ⟨A, c, hsv⟩ := own_len hk.held
  rw [s.rows_length] at hsv
  rw [hsv] at hj
  have k1 := (cell_of_row w bk 9 _ _ _ hbk).trans hj
  have HK := Lib.hid hk
  have HM := Lib.hid hm
  have HSV := Lib.hid hsv
  clear hbk hj hk hm hsv
  go_enter Tryz.func104, Tryz.ntmps104
  go_wp2
  go_loopg [3] s.N (fun g s3 wr => ∃ i : Nat, i + g = s.N ∧ s3 = .int .i64 i ∧ Below w.heap.size w wr)
  case atStart => exact ⟨0, by omega, rfl, Below.refl _ _⟩
  case round =>
    obtain ⟨i, hg, rfl, hbw⟩ := hrel
    replace k1 := cell_keep hbw k1
    cases gk with
    | zero =>
      obtain rfl : i = s.N := by omega
      go_wp2
      go_ret
      exact ⟨rfl, hbw⟩
    | succ g =>
      obtain ⟨gs, c', e1, c0, c1, c2⟩ := HK.out.head (x := i) (by omega)
      rw [HSV.out] at e1
      cases e1
      replace c0 := cell_keep hbw c0
      replace c1 := cell_keep hbw c1
      replace c2 := cell_keep hbw c2
      obtain ⟨hnum, n, hn, hr1, hr2⟩ := HM.out i (by omega)
      replace hr1 := hr1.keep hbw
      replace hr2 := hr2.keep hbw
      obtain ⟨Av, cv, hv⟩ := hr1.slice
      obtain ⟨Al, cl, hl⟩ := hr2.slice
      rw [List.length_replicate] at hv hl
      rw [hv] at c0 hr1
      rw [hl] at c1 hr2
      have hd : decide (i < s.N) = true := decide_eq_true (by omega)
      go_upto_region 5 with fail
      obtain ⟨wb, hwb⟩ : ∃ x, x = wr.alloc (.cells #[.slice Av n cv, .slice Al (n + 40) cl, .int .i64 (s.num i)] 214) := ⟨_, rfl⟩
      have hB0 : Below wr.heap.size wr wb := by rw [hwb]; exact below_alloc (Below.refl _ _) _
      have hl0 : wr.heap.size < wb.heap.size := by rw [hwb]; simp
      have b0 : wb.cell? ⟨wr.heap.size, 0, none⟩ = some (.slice Av n cv) := by rw [hwb, cell_of_row _ _ _ _ _ _ (heap_alloc_new wr _)]; rfl
      have b1 : wb.cell? ⟨wr.heap.size, 1, none⟩ = some (.slice Al (n + 40) cl) := by rw [hwb, cell_of_row _ _ _ _ _ _ (heap_alloc_new wr _)]; rfl
      have b2 : wb.cell? ⟨wr.heap.size, 2, none⟩ = some (.int .i64 (s.num i)) := by rw [hwb, cell_of_row _ _ _ _ _ _ (heap_alloc_new wr _)]; rfl
      rw [← hwb]
      obtain ⟨hb, hhb⟩ : ∃ x, x = wr.heap.size := ⟨_, rfl⟩
      have HR1 := Lib.hid (hr1.keep hB0)
      have HR2 := Lib.hid (hr2.keep hB0)
      have hBw : Below w.heap.size w wb := below_step hbw hB0
      rw [← hhb] at b0 b1 b2 hl0
      rw [← hhb]
      have HNU := Lib.hid hnum
      clear hwb hhb k1 c0 c1 c2 hr1 hr2 hB0 hbw hv hl hnum
      go_wp2
      go_loopg [5] (n + 40) (fun gg s5 wi => ∃ k : Nat, k + gg = n + 40 ∧ s5 = .int .i64 k ∧ Below wb.heap.size wb wi)
      case atStart => exact ⟨0, by omega, rfl, Below.refl _ _⟩
      case round =>
        obtain ⟨k, hkg, rfl, hbi⟩ := hrel
        replace b0 := cell_keep hbi b0
        replace b1 := cell_keep hbi b1
        replace b2 := cell_keep hbi b2
        have hlw : hb < wr.heap.size := Nat.lt_of_lt_of_le hl0 hbi.size
        cases gk with
        | zero =>
          obtain rfl : k = n + 40 := by omega
          go_wp2
          go_roundg g
          case measure => omega
          case rel => exact ⟨i + 1, by omega, by go_num, below_step hBw hbi⟩
        | succ gg =>
          have hkm : k < n + 40 := by omega
          have hr2 := (HR2.out.keep hbi)
          obtain ⟨gl, rfl, hgl, e0, e1⟩ := rdEntry hr2 hkm
          clear hr2
          go_upto_region 10 with fail
          obtain ⟨wo, rfl⟩ : ∃ wo : World, wo = wr := ⟨_, rfl⟩
          have hdl : decide (k < n + 40) = true := decide_eq_true hkm
          have HNW := Lib.hid ((HNU.out.keep hBw).keep hbi)
          by_cases hkn : k < n
          · have hdk : decide (k < n) = true := decide_eq_true hkn
            have hdi : decide ((k : Int) < (n : Int)) = true := decide_eq_true (by omega)
            have hr1 := (HR1.out.keep hbi)
            obtain ⟨gv, rfl, hgv, d0, d1⟩ := rdEntry hr1 hkn
            clear hr1
            refine wp_region_later (by kernel_rfl) (by kernel_rfl) ?_
            repeat (go_big_quiet_step ((exact Calls.later (isEntry_calls (s.num i) _ (HNW.out.keep (Later.h _))))))
            refine wpQuiet_nil ?_
            intro wL hbL
            go_wp2
            go_roundg gg
            case measure => omega
            case rel => exact ⟨k + 1, by omega, by go_num, below_step hbi hbL⟩
          · have hdk : decide (k < n) = false := decide_eq_false hkn
            have hdi : decide ((k : Int) < (n : Int)) = false := decide_eq_false (by omega)
            refine wp_region_later (by kernel_rfl) (by kernel_rfl) ?_
            repeat (go_big_quiet_step ((exact Calls.later (isEntry_calls (s.num i) _ (HNW.out.keep (Later.h _))))))
            refine wpQuiet_nil ?_
            intro wL hbL
            go_wp2
            go_roundg gg
            case measure => omega
            case rel => exact ⟨k + 1, by omega, by go_num, below_step hbi hbL⟩
set_option maxHeartbeats 2000000 in
theorem lookNode_calls (w : World) (B bk : Nat) (lab : Lab) (cs : Array Value) (s : KS) (hbk : w.heap[bk]? = some (.cells cs 53 (0, 0))) (hj : cs[10]? = some s.sv) (hk : Kind w B lab 10 217 80 10 s) (hm : Marked w B 10 s mkN) (hN : s.N ≤ 1000000) :
    Calls Tryz.prog 105 #[.pointer (some ⟨bk, 0, none⟩)] w fun e w' => e = .returned (.bool true) ∧ Below w.heap.size w w' := by
  obtain ⟨A, c, hsv⟩ := own_len hk.held
  rw [s.rows_length] at hsv
  rw [hsv] at hj
  have k1 := (cell_of_row w bk 10 _ _ _ hbk).trans hj
  have HK := Lib.hid hk
  have HM := Lib.hid hm
  have HSV := Lib.hid hsv
  clear hbk hj hk hm hsv
  go_enter Tryz.func105, Tryz.ntmps105
  go_wp2
  go_loopg [3] s.N (fun g s3 wr => ∃ i : Nat, i + g = s.N ∧ s3 = .int .i64 i ∧ Below w.heap.size w wr)
  case atStart => exact ⟨0, by omega, rfl, Below.refl _ _⟩
  case round =>
    obtain ⟨i, hg, rfl, hbw⟩ := hrel
    replace k1 := cell_keep hbw k1
    cases gk with
    | zero =>
      obtain rfl : i = s.N := by omega
      go_wp2
      go_ret
      exact ⟨rfl, hbw⟩
    | succ g =>
      obtain ⟨gs, c', e1, c0, c1, c2⟩ := HK.out.head (x := i) (by omega)
      rw [HSV.out] at e1
      cases e1
      replace c0 := cell_keep hbw c0
      replace c1 := cell_keep hbw c1
      replace c2 := cell_keep hbw c2
      obtain ⟨hnum, n, hn, hr1, hr2⟩ := HM.out i (by omega)
      replace hr1 := hr1.keep hbw
      replace hr2 := hr2.keep hbw
      obtain ⟨Av, cv, hv⟩ := hr1.slice
      obtain ⟨Al, cl, hl⟩ := hr2.slice
      rw [List.length_replicate] at hv hl
      rw [hv] at c0 hr1
      rw [hl] at c1 hr2
      have hd : decide (i < s.N) = true := decide_eq_true (by omega)
      go_upto_region 5 with fail
      obtain ⟨wb, hwb⟩ : ∃ x, x = wr.alloc (.cells #[.slice Av n cv, .slice Al (n + 40) cl, .int .i64 (s.num i)] 217) := ⟨_, rfl⟩
      have hB0 : Below wr.heap.size wr wb := by rw [hwb]; exact below_alloc (Below.refl _ _) _
      have hl0 : wr.heap.size < wb.heap.size := by rw [hwb]; simp
      have b0 : wb.cell? ⟨wr.heap.size, 0, none⟩ = some (.slice Av n cv) := by rw [hwb, cell_of_row _ _ _ _ _ _ (heap_alloc_new wr _)]; rfl
      have b1 : wb.cell? ⟨wr.heap.size, 1, none⟩ = some (.slice Al (n + 40) cl) := by rw [hwb, cell_of_row _ _ _ _ _ _ (heap_alloc_new wr _)]; rfl
      have b2 : wb.cell? ⟨wr.heap.size, 2, none⟩ = some (.int .i64 (s.num i)) := by rw [hwb, cell_of_row _ _ _ _ _ _ (heap_alloc_new wr _)]; rfl
      rw [← hwb]
      obtain ⟨hb, hhb⟩ : ∃ x, x = wr.heap.size := ⟨_, rfl⟩
      have HR1 := Lib.hid (hr1.keep hB0)
      have HR2 := Lib.hid (hr2.keep hB0)
      have hBw : Below w.heap.size w wb := below_step hbw hB0
      rw [← hhb] at b0 b1 b2 hl0
      rw [← hhb]
      have HNU := Lib.hid hnum
      clear hwb hhb k1 c0 c1 c2 hr1 hr2 hB0 hbw hv hl hnum
      go_wp2
      go_loopg [5] (n + 40) (fun gg s5 wi => ∃ k : Nat, k + gg = n + 40 ∧ s5 = .int .i64 k ∧ Below wb.heap.size wb wi)
      case atStart => exact ⟨0, by omega, rfl, Below.refl _ _⟩
      case round =>
        obtain ⟨k, hkg, rfl, hbi⟩ := hrel
        replace b0 := cell_keep hbi b0
        replace b1 := cell_keep hbi b1
        replace b2 := cell_keep hbi b2
        have hlw : hb < wr.heap.size := Nat.lt_of_lt_of_le hl0 hbi.size
        cases gk with
        | zero =>
          obtain rfl : k = n + 40 := by omega
          go_wp2
          go_roundg g
          case measure => omega
          case rel => exact ⟨i + 1, by omega, by go_num, below_step hBw hbi⟩
        | succ gg =>
          have hkm : k < n + 40 := by omega
          have hr2 := (HR2.out.keep hbi)
          obtain ⟨gl, rfl, hgl, e0, e1, e2, e3, e4, e5, e6, e7, e8, e9⟩ := rdNode hr2 hkm
          clear hr2
          go_upto_region 10 with fail
          obtain ⟨wo, rfl⟩ : ∃ wo : World, wo = wr := ⟨_, rfl⟩
          have hdl : decide (k < n + 40) = true := decide_eq_true hkm
          have HNW := Lib.hid ((HNU.out.keep hBw).keep hbi)
          by_cases hkn : k < n
          · have hdk : decide (k < n) = true := decide_eq_true hkn
            have hdi : decide ((k : Int) < (n : Int)) = true := decide_eq_true (by omega)
            have hr1 := (HR1.out.keep hbi)
            obtain ⟨gv, rfl, hgv, d0, d1, d2, d3, d4, d5, d6, d7, d8, d9⟩ := rdNode hr1 hkn
            clear hr1
            refine wp_region_later (by kernel_rfl) (by kernel_rfl) ?_
            repeat (go_big_quiet_step ((exact Calls.later (isNode_calls (s.num i) ⟨HNU.out.1, HNU.out.2.1⟩ _))))
            refine wpQuiet_nil ?_
            intro wL hbL
            go_wp2
            go_roundg gg
            case measure => omega
            case rel => exact ⟨k + 1, by omega, by go_num, below_step hbi hbL⟩
          · have hdk : decide (k < n) = false := decide_eq_false hkn
            have hdi : decide ((k : Int) < (n : Int)) = false := decide_eq_false (by omega)
            refine wp_region_later (by kernel_rfl) (by kernel_rfl) ?_
            repeat (go_big_quiet_step ((exact Calls.later (isNode_calls (s.num i) ⟨HNU.out.1, HNU.out.2.1⟩ _))))
            refine wpQuiet_nil ?_
            intro wL hbL
            go_wp2
            go_roundg gg
            case measure => omega
            case rel => exact ⟨k + 1, by omega, by go_num, below_step hbi hbL⟩
set_option maxHeartbeats 2000000 in
theorem lookStep_calls (w : World) (B bk : Nat) (lab : Lab) (cs : Array Value) (s : KS) (hbk : w.heap[bk]? = some (.cells cs 53 (0, 0))) (hj : cs[12]? = some s.sv) (hk : Kind w B lab 12 177 111 4 s) (hm : Marked w B 4 s mkS) (hN : s.N ≤ 1000000) :
    Calls Tryz.prog 107 #[.pointer (some ⟨bk, 0, none⟩)] w fun e w' => e = .returned (.bool true) ∧ Below w.heap.size w w' := by
  obtain ⟨A, c, hsv⟩ := own_len hk.held
  rw [s.rows_length] at hsv
  rw [hsv] at hj
  have k1 := (cell_of_row w bk 12 _ _ _ hbk).trans hj
  have HK := Lib.hid hk
  have HM := Lib.hid hm
  have HSV := Lib.hid hsv
  clear hbk hj hk hm hsv
  go_enter Tryz.func107, Tryz.ntmps107
  go_wp2
  go_loopg [3] s.N (fun g s3 wr => ∃ i : Nat, i + g = s.N ∧ s3 = .int .i64 i ∧ Below w.heap.size w wr)
  case atStart => exact ⟨0, by omega, rfl, Below.refl _ _⟩
  case round =>
    obtain ⟨i, hg, rfl, hbw⟩ := hrel
    replace k1 := cell_keep hbw k1
    cases gk with
    | zero =>
      obtain rfl : i = s.N := by omega
      go_wp2
      go_ret
      exact ⟨rfl, hbw⟩
    | succ g =>
      obtain ⟨gs, c', e1, c0, c1, c2⟩ := HK.out.head (x := i) (by omega)
      rw [HSV.out] at e1
      cases e1
      replace c0 := cell_keep hbw c0
      replace c1 := cell_keep hbw c1
      replace c2 := cell_keep hbw c2
      obtain ⟨hnum, n, hn, hr1, hr2⟩ := HM.out i (by omega)
      replace hr1 := hr1.keep hbw
      replace hr2 := hr2.keep hbw
      obtain ⟨Av, cv, hv⟩ := hr1.slice
      obtain ⟨Al, cl, hl⟩ := hr2.slice
      rw [List.length_replicate] at hv hl
      rw [hv] at c0 hr1
      rw [hl] at c1 hr2
      have hd : decide (i < s.N) = true := decide_eq_true (by omega)
      go_upto_region 5 with fail
      obtain ⟨wb, hwb⟩ : ∃ x, x = wr.alloc (.cells #[.slice Av n cv, .slice Al (n + 40) cl, .int .i64 (s.num i)] 177) := ⟨_, rfl⟩
      have hB0 : Below wr.heap.size wr wb := by rw [hwb]; exact below_alloc (Below.refl _ _) _
      have hl0 : wr.heap.size < wb.heap.size := by rw [hwb]; simp
      have b0 : wb.cell? ⟨wr.heap.size, 0, none⟩ = some (.slice Av n cv) := by rw [hwb, cell_of_row _ _ _ _ _ _ (heap_alloc_new wr _)]; rfl
      have b1 : wb.cell? ⟨wr.heap.size, 1, none⟩ = some (.slice Al (n + 40) cl) := by rw [hwb, cell_of_row _ _ _ _ _ _ (heap_alloc_new wr _)]; rfl
      have b2 : wb.cell? ⟨wr.heap.size, 2, none⟩ = some (.int .i64 (s.num i)) := by rw [hwb, cell_of_row _ _ _ _ _ _ (heap_alloc_new wr _)]; rfl
      rw [← hwb]
      obtain ⟨hb, hhb⟩ : ∃ x, x = wr.heap.size := ⟨_, rfl⟩
      have HR1 := Lib.hid (hr1.keep hB0)
      have HR2 := Lib.hid (hr2.keep hB0)
      have hBw : Below w.heap.size w wb := below_step hbw hB0
      rw [← hhb] at b0 b1 b2 hl0
      rw [← hhb]
      have HNU := Lib.hid hnum
      clear hwb hhb k1 c0 c1 c2 hr1 hr2 hB0 hbw hv hl hnum
      go_wp2
      go_loopg [5] (n + 40) (fun gg s5 wi => ∃ k : Nat, k + gg = n + 40 ∧ s5 = .int .i64 k ∧ Below wb.heap.size wb wi)
      case atStart => exact ⟨0, by omega, rfl, Below.refl _ _⟩
      case round =>
        obtain ⟨k, hkg, rfl, hbi⟩ := hrel
        replace b0 := cell_keep hbi b0
        replace b1 := cell_keep hbi b1
        replace b2 := cell_keep hbi b2
        have hlw : hb < wr.heap.size := Nat.lt_of_lt_of_le hl0 hbi.size
        cases gk with
        | zero =>
          obtain rfl : k = n + 40 := by omega
          go_wp2
          go_roundg g
          case measure => omega
          case rel => exact ⟨i + 1, by omega, by go_num, below_step hBw hbi⟩
        | succ gg =>
          have hkm : k < n + 40 := by omega
          have hr2 := (HR2.out.keep hbi)
          obtain ⟨gl, rfl, hgl, e0, e1, e2, e3⟩ := rdStep hr2 hkm
          clear hr2
          go_upto_region 10 with fail
          obtain ⟨wo, rfl⟩ : ∃ wo : World, wo = wr := ⟨_, rfl⟩
          have hdl : decide (k < n + 40) = true := decide_eq_true hkm
          have HNW := Lib.hid ((HNU.out.keep hBw).keep hbi)
          by_cases hkn : k < n
          · have hdk : decide (k < n) = true := decide_eq_true hkn
            have hdi : decide ((k : Int) < (n : Int)) = true := decide_eq_true (by omega)
            have hr1 := (HR1.out.keep hbi)
            obtain ⟨gv, rfl, hgv, d0, d1, d2, d3⟩ := rdStep hr1 hkn
            clear hr1
            refine wp_region_later (by kernel_rfl) (by kernel_rfl) ?_
            repeat (go_big_quiet_step ((exact Calls.later (isStep_calls (s.num i) _ (HNW.out.keep (Later.h _))))))
            refine wpQuiet_nil ?_
            intro wL hbL
            go_wp2
            go_roundg gg
            case measure => omega
            case rel => exact ⟨k + 1, by omega, by go_num, below_step hbi hbL⟩
          · have hdk : decide (k < n) = false := decide_eq_false hkn
            have hdi : decide ((k : Int) < (n : Int)) = false := decide_eq_false (by omega)
            refine wp_region_later (by kernel_rfl) (by kernel_rfl) ?_
            repeat (go_big_quiet_step ((exact Calls.later (isStep_calls (s.num i) _ (HNW.out.keep (Later.h _))))))
            refine wpQuiet_nil ?_
            intro wL hbL
            go_wp2
            go_roundg gg
            case measure => omega
            case rel => exact ⟨k + 1, by omega, by go_num, below_step hbi hbL⟩
end Go.Proofs.YtbfcfjgcmideeaaGreatDoor
