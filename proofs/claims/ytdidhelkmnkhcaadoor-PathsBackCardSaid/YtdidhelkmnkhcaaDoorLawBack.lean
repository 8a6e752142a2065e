/- The law of PathsBack: it answers true. -/
import Derived.Test.YtdidhelkmnkhcaaDoorLives14
import Derived.Test.YtdidhelkmnkhcaaDoorIdlePure
import Derived.Test.YtdidhelkmnkhcaaDoorGreat14
import Derived.Test.YtdidhelkmnkhcaaDoorPath
namespace Go.Proofs.YtdidhelkmnkhcaaDoor
open Go.RowKit
attribute [local go_sem] Later.cell_eq
theorem wf_u16 {q : Int} (h : (Lit.int .u16 q).wf = true) : 0 ≤ q ∧ q ≤ 65535 := by
  simp [Lit.wf, IntKind.min, IntKind.max, IntKind.signed, IntKind.bits] at h
  omega
theorem row2b {w : World} {b : Nat} {x0 x1 : Value} {ty : TypeId} (h : w.heap[b]? = some (.cells #[x0, x1] ty (0, 0))) : w.cell? ⟨b, 0, none⟩ = some x0 ∧ w.cell? ⟨b, 1, none⟩ = some x1 := ⟨cell_of_row w b 0 _ _ _ h, cell_of_row w b 1 _ _ _ h⟩
def BackAt (w wr : World) (b be : Nat) (A : Option Addr) (t : TTree) (c : Nat) (d : Int) : Prop :=
  wr.heap[b]? = some (.cells #[.slice A t.nodes.length c, .int .i64 t.now] 24 (0, 0)) ∧ wr.heap[be]? = some (.cells #[.int .i64 0, .int .i64 0, .int .i64 0, .int .i64 d] 26 (0, 0)) ∧ Below w.heap.size w wr
theorem BackAt.keep {w wr w2 : World} {b be : Nat} {A : Option Addr} {t : TTree} {c : Nat} {d : Int} (h : BackAt w wr b be A t c d) (hb : Below wr.heap.size wr w2) : BackAt w w2 b be A t c d :=
  ⟨row_keep h.1 hb, row_keep h.2.1 hb, below_step h.2.2 hb⟩
theorem BackAt.dir {w wr : World} {b be : Nat} {A : Option Addr} {t : TTree} {c : Nat} {d : Int} (h : BackAt w wr b be A t c d) (hn : b ≠ be) (hb : w.heap.size ≤ be) (x : Int) : BackAt w (wr.setCell ⟨be, 3, none⟩ (.int .i64 x)) b be A t c x :=
  ⟨by rw [Below.heap_setCell _ _ _ _ hn]; exact h.1, heap_setCell_same wr be 3 _ _ _ h.2.1, h.2.2.setCell (by dsimp only; exact hb) _⟩
set_option maxHeartbeats 4000000 in
set_option maxRecDepth 100000 in
theorem lawBack_calls (t : TTree) (hF : t.Fits) (A : Option Addr) (c : Nat) (k : Int) (hk : (Lit.int .u16 k).wf = true) (w : World) (hA : NodesAt w A t.nodes) :
    Calls Tryd.prog 8 #[.agg #[.slice A t.nodes.length c, .int .i64 t.now], .int .u16 k] w fun e w' => e = .returned (.bool true) ∧ Below w.heap.size w w' := by
  have HF := Lib.hid hF
  have HA := Lib.hid hA
  obtain ⟨hk0, hk1⟩ := wf_u16 hk
  clear hF hA hk
  have HR0 : Hid ((w.alloc (.cells #[.slice A t.nodes.length c, .int .i64 t.now] 24)).heap[w.heap.size]? = some (.cells #[.slice A t.nodes.length c, .int .i64 t.now] 24 (0, 0))) := Lib.hid (heap_alloc_new w _)
  cases hok : treeOK t with
  | false =>
    have HOK := Lib.hid hok
    clear hok
    go_enter Tryd.func8, Tryd.ntmps8
    go_wp2_with (first
      | (go_at_call 15; refine (lives14_calls _).mono ?_; rintro _ w7 ⟨rfl, hb7⟩; have HB7 := Lib.hid (below_step HB1.out hb7); clear hb7)
      | (go_at_call 12; refine (check_calls t HF.out _ _ _ (HA.out.keep HB1.out)).mono ?_; rintro _ w2 ⟨rfl, hb2⟩; rw [HOK.out]; replace HB1 := Lib.hid (below_step HB1.out hb2); clear hb2)
      | (go_at_call 22; refine (great14_calls t HF.out ⟨#[]⟩ (by decide) A c _ (HA.out.keep (below_alloc (Below.refl _ _) _))).mono ?_; rintro _ w1 ⟨b, ⟨rfl, hbq⟩, hb1⟩; clear hbq; have c0 := cell_keep hb1 (p := ⟨w.heap.size, 0, none⟩) (v := .slice A t.nodes.length c) (by simp [go_sem]); have c1 := cell_keep hb1 (p := ⟨w.heap.size, 1, none⟩) (v := .int .i64 t.now) (by simp [go_sem]); have HB1 := Lib.hid (below_step (below_alloc (Below.refl _ _) _) hb1); clear hb1; cases b))
    all_goals go_ret
    all_goals exact ⟨rfl, HB7.out⟩
  | true =>
    have HOK := Lib.hid hok
    have hT := TreeOK.of hok
    have h513 := hT.head.most
    have h2 := hT.head.two
    have HT := Lib.hid hT
    clear hok hT
    go_enter Tryd.func8, Tryd.ntmps8
    go_upto_region 3 with (first
      | (go_at_call 15; refine (lives14_calls _).mono ?_; rintro _ w7 ⟨rfl, hb7⟩; have HB7 := Lib.hid (below_step HB1.out hb7); clear hb7)
      | (go_at_call 12; refine (check_calls t HF.out _ _ _ (HA.out.keep HB1.out)).mono ?_; rintro _ w2 ⟨rfl, hb2⟩; rw [HOK.out]; replace HR0 := Lib.hid (row_keep HR0.out hb2); replace HB1 := Lib.hid (below_step HB1.out hb2); clear hb2)
      | (go_at_call 22; refine (great14_calls t HF.out ⟨#[]⟩ (by decide) A c _ (HA.out.keep (below_alloc (Below.refl _ _) _))).mono ?_; rintro _ w1 ⟨b, ⟨rfl, hbq⟩, hb1⟩; clear hbq; have c0 := cell_keep hb1 (p := ⟨w.heap.size, 0, none⟩) (v := .slice A t.nodes.length c) (by simp [go_sem]); have c1 := cell_keep hb1 (p := ⟨w.heap.size, 1, none⟩) (v := .int .i64 t.now) (by simp [go_sem]); replace HR0 := Lib.hid (row_keep HR0.out hb1); have HB1 := Lib.hid (below_step (below_alloc (Below.refl _ _) _) hb1); clear hb1; cases b))
    all_goals try (go_ret; exact ⟨rfl, HB7.out⟩)
    obtain ⟨bx, hbx⟩ : ∃ x, x = w.heap.size := ⟨_, rfl⟩
    rw [← hbx] at HR0
    rw [← hbx]
    have hbxl : bx = w.heap.size := hbx
    have HBX := Lib.hid hbxl
    clear c0 c1 hbx hbxl
    go_upto_region 4 with fail
    obtain ⟨wA, hwA⟩ : ∃ x, x = w2.alloc (.cells #[.int .i64 0, .int .i64 0, .int .i64 0, .int .i64 1] 26) := ⟨_, rfl⟩
    have HST : Hid (BackAt w wA bx w2.heap.size A t c 1) := Lib.hid (by
      rw [hwA]; exact ⟨heap_alloc_lt HR0.out _, heap_alloc_new _ _, below_alloc HB1.out _⟩)
    have hord : w.heap.size ≤ w2.heap.size ∧ bx ≠ w2.heap.size := by
      have h1 := HB1.out.size
      have h2 := (Array.getElem?_eq_some_iff.1 HR0.out).1
      omega
    rw [← hwA]
    obtain ⟨be, hbe⟩ : ∃ x, x = w2.heap.size := ⟨_, rfl⟩
    rw [← hbe] at HST hord
    rw [← hbe]
    have hN2 : 2 ≤ t.nodes.length := by omega
    have hN5 : t.nodes.length ≤ 513 := by omega
    clear hwA HR0 HB1 hbe h2 h513
    go_wp2
    go_loopg [6] t.nodes.length (fun gk s6 wr => ∃ (i : Nat) (d : Int), i + gk = t.nodes.length ∧ s6 = .int .i64 i ∧ Hid (DirAt t d) ∧ Hid (BackAt w wr bx be A t c d))
    case atStart => exact ⟨0, 1, by omega, rfl, Lib.hid (dirAt_root HT.out), HST⟩
    case round =>
      clear HST
      obtain ⟨i, d, hg, rfl, HD, HST⟩ := hrel
      obtain ⟨x0, x1⟩ := row2b HST.out.1
      cases gk with
      | succ gk =>
        have hi : i < t.nodes.length := by omega
        obtain ⟨m, hm⟩ : ∃ m : Nat, (k + (i : Int)) % (t.nodes.length : Int) = (m : Int) := ⟨((k + (i : Int)) % (t.nodes.length : Int)).toNat, by have := Int.emod_nonneg (k + (i : Int)) (b := (t.nodes.length : Int)) (by omega); omega⟩
        have hmN : m < t.nodes.length := by have := Int.emod_lt_of_pos (k + (i : Int)) (b := (t.nodes.length : Int)) (by omega); omega
        have hsum : IntKind.i64.wrap (k + (i : Int)) = k + (i : Int) := IntWalk.i64_in _ (by omega)
        obtain ⟨x, hx⟩ : ∃ x, t.nodes[m]? = some x := ⟨t.nodes[m]'(hmN), by simp⟩
        obtain ⟨bA, oA, Dx, cdx, Lx, clx, rfl, -, -, -, -, z0, -⟩ := (HA.out.keep HST.out.2.2).get hx
        have hN0 : ((t.nodes.length : Int) == 0) = false := beq_eq_false_iff_ne.2 (by omega)
        have hmi : (m : Int) < (t.nodes.length : Int) := by omega
        have y3 := (row4 HST.out.2.1).2.2.2
        have yf := frozen_of_row _ be 3 _ _ HST.out.2.1
        by_cases hkd : x.kind = 2
        · have ek : (x.kind == 2) = true := beq_iff_eq.2 hkd
          have HDM : Hid (DirAt t m) := Lib.hid ⟨by
            rcases Nat.eq_zero_or_pos m with h0 | h0
            · exfalso
              have hz := HT.out.head.zero
              have he : t.at 0 = x := at_eq (n := 0) (by rw [h0] at hx; exact hx)
              rw [he, hkd] at hz
              cases hz
            · omega, hmi, by rw [at_eq (n := (m : Int)) (by simpa using hx)]; exact hkd⟩
          clear hkd hx
          go_wp2
          go_roundg gk
          case measure => omega
          case rel => exact ⟨i + 1, m, by omega, by go_num, HDM, Lib.hid (HST.out.dir hord.2 hord.1 m)⟩
        · have ek : (x.kind == 2) = false := beq_eq_false_iff_ne.2 hkd
          clear hkd hx
          go_wp2
          go_roundg gk
          case measure => omega
          case rel => exact ⟨i + 1, d, by omega, by go_num, HD, HST⟩
      | zero =>
        obtain rfl : i = t.nodes.length := by omega
        go_wp2
        obtain ⟨wo, rfl⟩ : ∃ wo : World, wo = wr := ⟨_, rfl⟩
        go_loopg [8] (t.nodes.length - 1) (fun gk s8 wr => ∃ n : Nat, n + gk = t.nodes.length ∧ 1 ≤ n ∧ s8 = .int .i64 n ∧ Hid (BackAt w wr bx be A t c d))
        case atStart => exact ⟨1, by omega, Nat.le_refl _, rfl, HST⟩
        case round =>
          clear HST x0 x1
          obtain ⟨n, hg, hn1, rfl, HST⟩ := hrel
          obtain ⟨x0, x1⟩ := row2b HST.out.1
          cases gk with
          | zero =>
            obtain rfl : n = t.nodes.length := by omega
            go_wp2_with (go_at_call 15; refine (lives14_calls _).mono ?_; rintro _ w7 ⟨rfl, hb7⟩; have HB7 := Lib.hid (below_step HST.out.2.2 hb7); clear hb7)
            go_ret
            exact ⟨rfl, HB7.out⟩
          | succ gk =>
            have hni : n < t.nodes.length := by omega
            have hni2 : (n : Int) < (t.nodes.length : Int) := by omega
            obtain ⟨x, hx⟩ : ∃ x, t.nodes[n]? = some x := ⟨t.nodes[n]'(hni), by simp⟩
            obtain ⟨bA, oA, Dx, cdx, Lx, clx, rfl, -, -, -, -, z0, -⟩ := (HA.out.keep HST.out.2.2).get hx
            have hat : t.at (n : Int) = x := at_eq (n := (n : Int)) (by simpa using hx)
            by_cases hkd : x.kind = 2
            · have ek : (x.kind != 2) = false := by simp [hkd]
              have hDN : DirAt t n := ⟨by omega, hni2, by rw [hat]; exact hkd⟩
              have HDN := Lib.hid hDN
              have hdir : isDirB t n = true := (isDirB_iff t n).mpr ⟨HT.out, hDN.1, hDN.2.1, hDN.2.2⟩
              have HPE : Hid (tPathE t n = 0) := Lib.hid (by unfold tPathE; rw [hdir, if_pos rfl])
              have HPP : Hid ((tPath t n).data.toList = pathOf (climb t 32 n)) := Lib.hid (by unfold tPath; rw [hdir, if_pos rfl])
              obtain ⟨P, hP⟩ : ∃ P, P = tPath t n := ⟨_, rfl⟩
              rw [← hP] at HPP
              have HP := Lib.hid hP
              clear hkd hx hat hDN hdir hP
              go_upto_region 17 with (go_at_call 24; refine (path_calls t HF.out n _ _ _ (HA.out.keep HST.out.2.2)).mono ?_; rintro _ w3 ⟨rfl, hb3⟩; rw [HPE.out, ← HP.out]; replace HST := Lib.hid (HST.out.keep hb3); clear hb3)
              have hPl : P.data.toList.length = P.size := Array.length_toList
              clear x0 x1 z0
              by_cases hlen : P.size ≤ 1024
              · have hl2 : decide ((1024 : Int) < (P.size : Int)) = false := decide_eq_false (by omega)
                obtain ⟨a, s, b, hfb⟩ := find_back HT.out HD.out HDN.out (by rw [← HPP.out, hPl]; exact hlen)
                have HFB : Hid (findS t 0 0 0 d P.data.toList true = (⟨a, (⟨s.toArray⟩ : ByteArray).data.toList, n, b⟩, 0)) := Lib.hid (by rw [HPP.out, hfb])
                obtain ⟨x0, x1⟩ := row2b HST.out.1
                obtain ⟨y0, y1, y2, y3⟩ := row4 HST.out.2.1
                clear hlen hPl hfb
                go_wp2_with (go_at_call 23; refine (find_lit_calls t HF.out 0 0 0 d P true a ⟨s.toArray⟩ n b 0 HFB.out _ c _ (HA.out.keep HST.out.2.2)).mono ?_; rintro _ w5 ⟨rfl, hb5⟩; replace HST := Lib.hid (HST.out.keep hb5); clear hb5)
                go_roundg gk
                case measure => omega
                case rel => exact ⟨n + 1, by omega, by omega, by go_num, Lib.hid (HST.out.keep (below_alloc (Below.refl _ _) _))⟩
              · have hl2 : decide ((1024 : Int) < (P.size : Int)) = true := decide_eq_true (by omega)
                clear hlen hPl
                go_wp2
                go_roundg gk
                case measure => omega
                case rel => exact ⟨n + 1, by omega, by omega, by go_num, HST⟩
            · have ek : (x.kind != 2) = true := by simp [hkd]
              clear hkd hx hat
              go_wp2
              go_roundg gk
              case measure => omega
              case rel => exact ⟨n + 1, by omega, by omega, by go_num, HST⟩
end Go.Proofs.YtdidhelkmnkhcaaDoor
