/- The law of PathsIdle: it answers true. -/
import Derived.Test.YtdidhelkmnkhcaaDoorLives14
import Derived.Test.YtdidhelkmnkhcaaDoorIdlePure
import Derived.Test.YtdidhelkmnkhcaaDoorGreat14
namespace Go.Proofs.YtdidhelkmnkhcaaDoor
open Go.RowKit
attribute [local go_sem] Later.cell_eq
theorem i64_u8 {k : Int} (h : (Lit.int .u8 k).wf = true) : 0 ≤ k ∧ k ≤ 255 := wf_u8 h
def lookRow (A : Option Addr) (t : TTree) (c : Nat) (u g m e : Int) (s : ByteArray) (z : Bool) : Array Value := #[.slice A t.nodes.length c, .int .i64 t.now, .int .i64 u, .int .i64 g, .int .i64 m, .int .i64 e, .string s, .bool z]
structure LookAt (w : World) (b : Nat) (A : Option Addr) (t : TTree) (c : Nat) (u g m e : Int) (s : ByteArray) (z : Bool) : Prop where
  c0 : w.cell? ⟨b, 0, none⟩ = some (.slice A t.nodes.length c)
  c1 : w.cell? ⟨b, 1, none⟩ = some (.int .i64 t.now)
  c2 : w.cell? ⟨b, 2, none⟩ = some (.int .i64 u)
  c3 : w.cell? ⟨b, 3, none⟩ = some (.int .i64 g)
  c4 : w.cell? ⟨b, 4, none⟩ = some (.int .i64 m)
  c5 : w.cell? ⟨b, 5, none⟩ = some (.int .i64 e)
  c6 : w.cell? ⟨b, 6, none⟩ = some (.string s)
  c7 : w.cell? ⟨b, 7, none⟩ = some (.bool z)
theorem lookAt_of {w : World} {b : Nat} {A : Option Addr} {t : TTree} {c : Nat} {u g m e : Int} {s : ByteArray} {z : Bool} {ty : TypeId} (h : w.heap[b]? = some (.cells (lookRow A t c u g m e s z) ty (0, 0))) : LookAt w b A t c u g m e s z :=
  ⟨cell_of_row w b 0 _ _ _ h, cell_of_row w b 1 _ _ _ h, cell_of_row w b 2 _ _ _ h, cell_of_row w b 3 _ _ _ h, cell_of_row w b 4 _ _ _ h, cell_of_row w b 5 _ _ _ h, cell_of_row w b 6 _ _ _ h, cell_of_row w b 7 _ _ _ h⟩
theorem LookAt.keep {w w' : World} {b : Nat} {A : Option Addr} {t : TTree} {c : Nat} {u g m e : Int} {s : ByteArray} {z : Bool} (h : LookAt w b A t c u g m e s z) (hb : Below w.heap.size w w') : LookAt w' b A t c u g m e s z :=
  ⟨cell_keep hb h.c0, cell_keep hb h.c1, cell_keep hb h.c2, cell_keep hb h.c3, cell_keep hb h.c4, cell_keep hb h.c5, cell_keep hb h.c6, cell_keep hb h.c7⟩
set_option maxHeartbeats 4000000 in
set_option maxRecDepth 100000 in
theorem lawIdle_calls (t : TTree) (hF : t.Fits) (A : Option Addr) (c : Nat) (u g m e : Int) (p : ByteArray) (z : Bool) (hX : I64 u ∧ I64 g ∧ I64 m ∧ I64 e ∧ p.size ≤ 140737488355328) (k : Int) (hk : (Lit.int .u8 k).wf = true) (w : World) (hA : NodesAt w A t.nodes) :
    Calls Tryd.prog 6 #[.agg #[.slice A t.nodes.length c, .int .i64 t.now, .int .i64 u, .int .i64 g, .int .i64 m, .int .i64 e, .string p, .bool z], .int .u8 k] w fun e w' => e = .returned (.bool true) ∧ Below w.heap.size w w' := by
  have hp := hX.2.2.2.2
  have HF := Lib.hid hF
  have HA := Lib.hid hA
  obtain ⟨hk0, hk1⟩ := i64_u8 hk
  clear hF hA hX hk
  cases hok : treeOK t with
  | false =>
    have HOK := Lib.hid hok
    clear hok
    go_enter Tryd.func6, Tryd.ntmps6
    go_wp2_with (first
      | (go_at_call 15; refine (lives14_calls _).mono ?_; rintro _ w7 ⟨rfl, hb7⟩; have HB7 := Lib.hid (below_step HB1.out hb7); clear hb7)
      | (go_at_call 12; refine (check_calls t HF.out _ _ _ (HA.out.keep HB1.out)).mono ?_; rintro _ w2 ⟨rfl, hb2⟩; rw [HOK.out]; replace c6 := cell_keep hb2 c6; replace HB1 := Lib.hid (below_step HB1.out hb2); clear hb2)
      | (go_at_call 22; refine (great14_calls t HF.out p hp A c _ (HA.out.keep (below_alloc (Below.refl _ _) _))).mono ?_; rintro _ w1 ⟨b, ⟨rfl, hbq⟩, hb1⟩; clear hbq; have c0 := cell_keep hb1 (p := ⟨w.heap.size, 0, none⟩) (v := .slice A t.nodes.length c) (by simp [go_sem]); have c1 := cell_keep hb1 (p := ⟨w.heap.size, 1, none⟩) (v := .int .i64 t.now) (by simp [go_sem]); have c6 := cell_keep hb1 (p := ⟨w.heap.size, 6, none⟩) (v := .string p) (by simp [go_sem]); have HB1 := Lib.hid (below_step (below_alloc (Below.refl _ _) _) hb1); clear hb1; cases b))
    all_goals go_ret
    all_goals exact ⟨rfl, HB7.out⟩
  | true =>
    have HOK := Lib.hid hok
    clear hok
    cases hn : p.size with
    | zero =>
      have h0 := nil_toList hn
      clear hn
      go_enter Tryd.func6, Tryd.ntmps6
      go_wp2_with (first
        | (go_at_call 15; refine (lives14_calls _).mono ?_; rintro _ w7 ⟨rfl, hb7⟩; have HB7 := Lib.hid (below_step HB1.out hb7); clear hb7)
        | (go_at_call 12; refine (check_calls t HF.out _ _ _ (HA.out.keep HB1.out)).mono ?_; rintro _ w2 ⟨rfl, hb2⟩; rw [HOK.out]; replace c6 := cell_keep hb2 c6; replace HB1 := Lib.hid (below_step HB1.out hb2); clear hb2)
        | (go_at_call 22; refine (great14_calls t HF.out p hp A c _ (HA.out.keep (below_alloc (Below.refl _ _) _))).mono ?_; rintro _ w1 ⟨b, ⟨rfl, hbq⟩, hb1⟩; clear hbq; have c0 := cell_keep hb1 (p := ⟨w.heap.size, 0, none⟩) (v := .slice A t.nodes.length c) (by simp [go_sem]); have c1 := cell_keep hb1 (p := ⟨w.heap.size, 1, none⟩) (v := .int .i64 t.now) (by simp [go_sem]); have c6 := cell_keep hb1 (p := ⟨w.heap.size, 6, none⟩) (v := .string p) (by simp [go_sem]); have HB1 := Lib.hid (below_step (below_alloc (Below.refl _ _) _) hb1); clear hb1; cases b))
      all_goals go_ret
      all_goals exact ⟨rfl, HB7.out⟩
    | succ n =>
      have h0 := ne_toList hn
      have h1 : p.toList.isEmpty = false := by simpa using h0
      have hnn : 0 < p.size := by omega
      have hfb := first_byte p hnn
      obtain ⟨b0, hbn⟩ : ∃ b, p[0]'hnn = b := ⟨_, rfl⟩
      rw [hbn] at hfb
      have hb0 : (p[0]'hnn).toNat = b0.toNat := by rw [hbn]
      clear hn hbn
      by_cases h47 : b0 = 47
      · have e47 : ((b0.toNat : Int) == 47) = true := by rw [byte47]; simpa using h47
        have e47' : b0.toNat = 47 := by rw [h47]; rfl
        clear h47 hfb
        go_enter Tryd.func6, Tryd.ntmps6
        go_wp2_with (first
          | (go_at_call 15; refine (lives14_calls _).mono ?_; rintro _ w7 ⟨rfl, hb7⟩; have HB7 := Lib.hid (below_step HB1.out hb7); clear hb7)
          | (go_at_call 12; refine (check_calls t HF.out _ _ _ (HA.out.keep HB1.out)).mono ?_; rintro _ w2 ⟨rfl, hb2⟩; rw [HOK.out]; replace c6 := cell_keep hb2 c6; replace HB1 := Lib.hid (below_step HB1.out hb2); clear hb2)
          | (go_at_call 22; refine (great14_calls t HF.out p hp A c _ (HA.out.keep (below_alloc (Below.refl _ _) _))).mono ?_; rintro _ w1 ⟨b, ⟨rfl, hbq⟩, hb1⟩; clear hbq; have c0 := cell_keep hb1 (p := ⟨w.heap.size, 0, none⟩) (v := .slice A t.nodes.length c) (by simp [go_sem]); have c1 := cell_keep hb1 (p := ⟨w.heap.size, 1, none⟩) (v := .int .i64 t.now) (by simp [go_sem]); have c6 := cell_keep hb1 (p := ⟨w.heap.size, 6, none⟩) (v := .string p) (by simp [go_sem]); have HB1 := Lib.hid (below_step (below_alloc (Below.refl _ _) _) hb1); clear hb1; cases b))
        all_goals go_ret
        all_goals exact ⟨rfl, HB7.out⟩
      · have e47 : ((b0.toNat : Int) == 47) = false := by rw [byte47]; simpa using h47
        have e47' : ¬ b0.toNat = 47 := fun e => h47 (UInt8.toNat_inj.1 e)
        have HPH : Hid (p.data.toList.head? ≠ some 47) := Lib.hid (by rw [hfb]; simpa using h47)
        have HPN : Hid (p.data.toList ≠ []) := Lib.hid (by rw [← ByteArray.toList_eq]; exact h0)
        clear h47 hfb
        have hr0 : (w.alloc (.cells (lookRow A t c u g m e p z) 52)).heap[w.heap.size]? = some (.cells (lookRow A t c u g m e p z) 52 (0, 0)) := heap_alloc_new w _
        have HR0 := Lib.hid hr0
        clear hr0
        go_enter Tryd.func6, Tryd.ntmps6
        go_upto_region 3 with (first
          | (go_at_call 15; refine (lives14_calls _).mono ?_; rintro _ w7 ⟨rfl, hb7⟩; have HB7 := Lib.hid (below_step HB1.out hb7); clear hb7)
          | (go_at_call 12; refine (check_calls t HF.out _ _ _ (HA.out.keep HB1.out)).mono ?_; rintro _ w2 ⟨rfl, hb2⟩; rw [HOK.out]; replace c6 := cell_keep hb2 c6; replace HR0 := Lib.hid (row_keep HR0.out hb2); replace HB1 := Lib.hid (below_step HB1.out hb2); clear hb2)
          | (go_at_call 22; refine (great14_calls t HF.out p hp A c _ (HA.out.keep (below_alloc (Below.refl _ _) _))).mono ?_; rintro _ w1 ⟨b, ⟨rfl, hbq⟩, hb1⟩; clear hbq; have c0 := cell_keep hb1 (p := ⟨w.heap.size, 0, none⟩) (v := .slice A t.nodes.length c) (by simp [go_sem]); have c1 := cell_keep hb1 (p := ⟨w.heap.size, 1, none⟩) (v := .int .i64 t.now) (by simp [go_sem]); have c6 := cell_keep hb1 (p := ⟨w.heap.size, 6, none⟩) (v := .string p) (by simp [go_sem]); replace HR0 := Lib.hid (row_keep HR0.out hb1); have HB1 := Lib.hid (below_step (below_alloc (Below.refl _ _) _) hb1); clear hb1; cases b))
        all_goals try (go_ret; exact ⟨rfl, HB7.out⟩)
        obtain ⟨bx, hbx⟩ : ∃ x, x = w.heap.size := ⟨_, rfl⟩
        rw [← hbx] at HR0
        rw [← hbx]
        have hbxl : w.heap.size ≤ bx := by omega
        have x2 := (lookAt_of HR0.out).c2
        have xf := frozen_of_row _ bx 2 _ _ HR0.out
        clear c0 c1 c6 hbx
        go_upto_region 4 with fail
        obtain ⟨wA, hwA⟩ : ∃ x, x = w2.setCell ⟨bx, 2, none⟩ (.int .i64 0) := ⟨_, rfl⟩
        have hRA : wA.heap[bx]? = some (.cells (lookRow A t c 0 g m e p z) 52 (0, 0)) := by rw [hwA]; exact heap_setCell_same w2 bx 2 _ _ _ HR0.out
        have HBA : Hid (Below w.heap.size w wA) := Lib.hid (by rw [hwA]; exact HB1.out.setCell (by dsimp only; exact hbxl) _)
        rw [← hwA]
        have HL := Lib.hid (lookAt_of hRA)
        clear hwA hRA HR0 HB1 x2 xf
        obtain ⟨M, hM⟩ : ∃ M : Nat, k % 20 = (M : Int) := ⟨(k % 20).toNat, by omega⟩
        have hM20 : M ≤ 19 := by omega
        have y6 := HL.out.c6
        go_wp2
        go_loopg [5, 6] M (fun gk s5 s6 wr => ∃ (s : ByteArray) (i j : Nat), i + gk = M ∧ s5 = .string s ∧ s6 = .int .i64 i ∧ Hid (Idle s.data.toList j) ∧ j ≤ i ∧ s.size ≤ 2 * i ∧ (1 ≤ i → 1 ≤ s.size) ∧ wr = wA)
        case atStart => exact ⟨⟨#[]⟩, 0, 0, by omega, rfl, rfl, Lib.hid idle_nil, Nat.le_refl _, by show 0 ≤ _; omega, fun h => absurd h (by omega), rfl⟩
        case round =>
          obtain ⟨s, i, j, hg, rfl, rfl, HI, hji, hsz, hs1, hwr⟩ := hrel
          obtain rfl : wA = wr := hwr.symm
          cases gk with
          | succ gk =>
            have hi : i < M := by omega
            have hi2 : (i : Int) < (M : Int) := by omega
            rcases Nat.mod_two_eq_zero_or_one i with hpar | hpar
            · have e2 : ((i : Int) % 2 == 0) = true := beq_iff_eq.2 (by omega)
              have e2' : (i : Int) % 2 = 0 := by omega
              have HD := Lib.hid (idle_dot HI.out)
              clear hpar hs1
              go_wp2
              go_roundg gk
              case measure => omega
              case rel => exact ⟨_, i + 1, j + 1, by omega, rfl, by go_num, Lib.hid (by have := HD.out; simpa using this), by omega, by rw [ByteArray.size_append]; have : (⟨#[46, 47]⟩ : ByteArray).size = 2 := rfl; omega, fun _ => by rw [ByteArray.size_append]; have : (⟨#[46, 47]⟩ : ByteArray).size = 2 := rfl; omega, rfl⟩
            · have e2 : ((i : Int) % 2 == 0) = false := beq_eq_false_iff_ne.2 (by omega)
              have e2' : ¬ (i : Int) % 2 = 0 := by omega
              have HD := Lib.hid (idle_slash HI.out (by have := hs1 (by omega); intro h; rw [size_nil] at h; omega))
              clear hpar hs1
              go_wp2
              go_roundg gk
              case measure => omega
              case rel => exact ⟨_, i + 1, j, by omega, rfl, by go_num, Lib.hid (by have := HD.out; simpa using this), by omega, by rw [ByteArray.size_append]; have : (⟨#[47]⟩ : ByteArray).size = 1 := rfl; omega, fun _ => by rw [ByteArray.size_append]; have : (⟨#[47]⟩ : ByteArray).size = 1 := rfl; omega, rfl⟩
          | zero =>
            obtain rfl : i = M := by omega
            have hs40 : s.size ≤ 40 := by omega
            have hj20 : j ≤ 20 := by omega
            have y7 := HL.out.c7
            have y0 := HL.out.c0
            have y1 := HL.out.c1
            have y2 := HL.out.c2
            have y3 := HL.out.c3
            have y4 := HL.out.c4
            have y5 := HL.out.c5
            clear hs1 hji hsz hg hM20
            cases hsn : s.size with
            | zero =>
              have hs0 : decide ((0 : Int) < (s.size : Int)) = false := decide_eq_false (by omega)
              have hs0' : decide (0 < s.size) = false := decide_eq_false (by omega)
              clear hsn
              by_cases hsum : s.size + p.size ≤ 1024
              · have hsm : decide ((1024 : Int) < (s.size : Int) + (p.size : Int)) = false := decide_eq_false (by omega)
                obtain ⟨D, nm, nd, b, kk, hR⟩ := find_shape t 0 g m e p.data.toList z
                have hR2 : findS t 0 g m e (s ++ p).data.toList z = (⟨D, nm.data.toList, nd, b⟩, kk) := by
                  rw [← hR, ← find_idle t g m e z HI.out hj20 (by rw [Array.length_toList, Array.length_toList]; exact hsum) HPN.out HPH.out]
                  congr 1
                have HR1 := Lib.hid hR
                have HR2 := Lib.hid hR2
                clear hR hR2 hsum
                go_upto_region 14 with (go_at_call 23; refine (find_lit_calls t HF.out 0 g m e p z D nm nd b kk HR1.out A c _ (HA.out.keep HBA.out)).mono ?_; rintro _ w5 ⟨rfl, hb5⟩; replace y0 := cell_keep hb5 y0; replace y1 := cell_keep hb5 y1; replace y2 := cell_keep hb5 y2; replace y3 := cell_keep hb5 y3; replace y4 := cell_keep hb5 y4; replace y5 := cell_keep hb5 y5; replace y6 := cell_keep hb5 y6; replace y7 := cell_keep hb5 y7; replace HBA := Lib.hid (below_step HBA.out hb5); clear hb5)
                obtain ⟨wn, hwn⟩ : ∃ x, x = w5.alloc (.cells #[.int .i64 D, .string nm, .int .i64 nd, .bool b] 55) := ⟨_, rfl⟩
                have hal : Below w5.heap.size w5 wn := by rw [hwn]; exact below_alloc (Below.refl _ _) _
                have p1 : Hid (wn.heap[w5.heap.size]? = some (.cells #[.int .i64 D, .string nm, .int .i64 nd, .bool b] 55 (0, 0))) := Lib.hid (by rw [hwn]; exact heap_alloc_new _ _)
                rw [← hwn]
                clear hwn
                replace y0 := cell_keep hal y0
                replace y1 := cell_keep hal y1
                replace y2 := cell_keep hal y2
                replace y3 := cell_keep hal y3
                replace y4 := cell_keep hal y4
                replace y5 := cell_keep hal y5
                replace y6 := cell_keep hal y6
                replace y7 := cell_keep hal y7
                replace HBA := Lib.hid (below_step HBA.out hal)
                obtain ⟨bq, hbq⟩ : ∃ x, x = w5.heap.size := ⟨_, rfl⟩
                rw [← hbq] at p1
                rw [← hbq]
                clear hbq hal
                go_upto_region 15 with (go_at_call 23; refine (find_lit_calls t HF.out 0 g m e (s ++ p) z D nm nd b kk HR2.out A c _ (HA.out.keep HBA.out)).mono ?_; rintro _ w6 ⟨rfl, hb6⟩; replace p1 := Lib.hid (row_keep p1.out hb6); replace HBA := Lib.hid (below_step HBA.out hb6); clear hb6)
                clear y0 y1 y2 y3 y4 y5 y6 y7
                obtain ⟨wm, hwm⟩ : ∃ x, x = w6.alloc (.cells #[.int .i64 D, .string nm, .int .i64 nd, .bool b] 55) := ⟨_, rfl⟩
                have hal : Below w6.heap.size w6 wm := by rw [hwm]; exact below_alloc (Below.refl _ _) _
                have p2 : wm.heap[w6.heap.size]? = some (.cells #[.int .i64 D, .string nm, .int .i64 nd, .bool b] 55 (0, 0)) := by rw [hwm]; exact heap_alloc_new _ _
                rw [← hwm]
                clear hwm
                replace HBA := Lib.hid (below_step HBA.out hal)
                obtain ⟨a0, a1, a2, a3⟩ := row4 (row_keep p1.out hal)
                obtain ⟨q0, q1, q2, q3⟩ := row4 p2
                obtain ⟨br, hbr⟩ : ∃ x, x = w6.heap.size := ⟨_, rfl⟩
                rw [← hbr] at q0 q1 q2 q3
                rw [← hbr]
                clear hbr hal p2 p1
                go_wp2_with (go_at_call 15; refine (lives14_calls _).mono ?_; rintro _ w7 ⟨rfl, hb7⟩; have HB7 := Lib.hid (below_step HBA.out hb7); clear hb7)
                go_ret
                exact ⟨rfl, HB7.out⟩
              · have hsm : decide ((1024 : Int) < (s.size : Int) + (p.size : Int)) = true := decide_eq_true (by omega)
                clear hsum
                go_wp2_with (go_at_call 15; refine (lives14_calls _).mono ?_; rintro _ w7 ⟨rfl, hb7⟩; have HB7 := Lib.hid (below_step HBA.out hb7); clear hb7)
                go_ret
                exact ⟨rfl, HB7.out⟩
            | succ ns =>
              have hs0 : decide ((0 : Int) < (s.size : Int)) = true := decide_eq_true (by omega)
              have hs0' : decide (0 < s.size) = true := decide_eq_true (by omega)
              have hsnn : 0 < s.size := by omega
              have hfs := first_byte s hsnn
              obtain ⟨b1, hb1⟩ : ∃ b, s[0]'hsnn = b := ⟨_, rfl⟩
              rw [hb1] at hfs
              have hb1' : (s[0]'hsnn).toNat = b1.toNat := by rw [hb1]
              have h46 : b1 = 46 := by
                rcases HI.out.head with h | h
                · rw [size_nil] at h; omega
                · rw [hfs] at h; exact Option.some.inj h
              have b46 : ((b1.toNat : Int) == 47) = false := by rw [h46]; rfl
              have b46' : ¬ b1.toNat = 47 := by rw [h46]; decide
              clear hsn hfs hb1 h46
              by_cases hsum : s.size + p.size ≤ 1024
              · have hsm : decide ((1024 : Int) < (s.size : Int) + (p.size : Int)) = false := decide_eq_false (by omega)
                obtain ⟨D, nm, nd, b, kk, hR⟩ := find_shape t 0 g m e p.data.toList z
                have hR2 : findS t 0 g m e (s ++ p).data.toList z = (⟨D, nm.data.toList, nd, b⟩, kk) := by
                  rw [← hR, ← find_idle t g m e z HI.out hj20 (by rw [Array.length_toList, Array.length_toList]; exact hsum) HPN.out HPH.out]
                  congr 1
                have HR1 := Lib.hid hR
                have HR2 := Lib.hid hR2
                clear hR hR2 hsum
                go_upto_region 14 with (go_at_call 23; refine (find_lit_calls t HF.out 0 g m e p z D nm nd b kk HR1.out A c _ (HA.out.keep HBA.out)).mono ?_; rintro _ w5 ⟨rfl, hb5⟩; replace y0 := cell_keep hb5 y0; replace y1 := cell_keep hb5 y1; replace y2 := cell_keep hb5 y2; replace y3 := cell_keep hb5 y3; replace y4 := cell_keep hb5 y4; replace y5 := cell_keep hb5 y5; replace y6 := cell_keep hb5 y6; replace y7 := cell_keep hb5 y7; replace HBA := Lib.hid (below_step HBA.out hb5); clear hb5)
                obtain ⟨wn, hwn⟩ : ∃ x, x = w5.alloc (.cells #[.int .i64 D, .string nm, .int .i64 nd, .bool b] 55) := ⟨_, rfl⟩
                have hal : Below w5.heap.size w5 wn := by rw [hwn]; exact below_alloc (Below.refl _ _) _
                have p1 : Hid (wn.heap[w5.heap.size]? = some (.cells #[.int .i64 D, .string nm, .int .i64 nd, .bool b] 55 (0, 0))) := Lib.hid (by rw [hwn]; exact heap_alloc_new _ _)
                rw [← hwn]
                clear hwn
                replace y0 := cell_keep hal y0
                replace y1 := cell_keep hal y1
                replace y2 := cell_keep hal y2
                replace y3 := cell_keep hal y3
                replace y4 := cell_keep hal y4
                replace y5 := cell_keep hal y5
                replace y6 := cell_keep hal y6
                replace y7 := cell_keep hal y7
                replace HBA := Lib.hid (below_step HBA.out hal)
                obtain ⟨bq, hbq⟩ : ∃ x, x = w5.heap.size := ⟨_, rfl⟩
                rw [← hbq] at p1
                rw [← hbq]
                clear hbq hal
                go_upto_region 15 with (go_at_call 23; refine (find_lit_calls t HF.out 0 g m e (s ++ p) z D nm nd b kk HR2.out A c _ (HA.out.keep HBA.out)).mono ?_; rintro _ w6 ⟨rfl, hb6⟩; replace p1 := Lib.hid (row_keep p1.out hb6); replace HBA := Lib.hid (below_step HBA.out hb6); clear hb6)
                clear y0 y1 y2 y3 y4 y5 y6 y7
                obtain ⟨wm, hwm⟩ : ∃ x, x = w6.alloc (.cells #[.int .i64 D, .string nm, .int .i64 nd, .bool b] 55) := ⟨_, rfl⟩
                have hal : Below w6.heap.size w6 wm := by rw [hwm]; exact below_alloc (Below.refl _ _) _
                have p2 : wm.heap[w6.heap.size]? = some (.cells #[.int .i64 D, .string nm, .int .i64 nd, .bool b] 55 (0, 0)) := by rw [hwm]; exact heap_alloc_new _ _
                rw [← hwm]
                clear hwm
                replace HBA := Lib.hid (below_step HBA.out hal)
                obtain ⟨a0, a1, a2, a3⟩ := row4 (row_keep p1.out hal)
                obtain ⟨q0, q1, q2, q3⟩ := row4 p2
                obtain ⟨br, hbr⟩ : ∃ x, x = w6.heap.size := ⟨_, rfl⟩
                rw [← hbr] at q0 q1 q2 q3
                rw [← hbr]
                clear hbr hal p2 p1
                go_wp2_with (go_at_call 15; refine (lives14_calls _).mono ?_; rintro _ w7 ⟨rfl, hb7⟩; have HB7 := Lib.hid (below_step HBA.out hb7); clear hb7)
                go_ret
                exact ⟨rfl, HB7.out⟩
              · have hsm : decide ((1024 : Int) < (s.size : Int) + (p.size : Int)) = true := decide_eq_true (by omega)
                clear hsum
                go_wp2_with (go_at_call 15; refine (lives14_calls _).mono ?_; rintro _ w7 ⟨rfl, hb7⟩; have HB7 := Lib.hid (below_step HBA.out hb7); clear hb7)
                go_ret
                exact ⟨rfl, HB7.out⟩
end Go.Proofs.YtdidhelkmnkhcaaDoor
