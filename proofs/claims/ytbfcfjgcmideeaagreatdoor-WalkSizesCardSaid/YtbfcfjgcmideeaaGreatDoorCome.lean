/- walk.steps' inner function: it comes to a node, and to all that is in it. -/
import Derived.Test.YtbfcfjgcmideeaaGreatDoorW6
import Derived.Outline
import Derived.Shelf.Abstract
import Derived.Shelf.RegionOpen
import Derived.OwnWalkIn
import Derived.TacticsInMore
import Derived.LoopNIn
import Derived.LoopIn
import Derived.Deep.MidRow
import Derived.StillTailTactics
namespace Go.Proofs.YtbfcfjgcmideeaaGreatDoor
open Go.RowKit
attribute [local go_sem] Later.cell_eq Oper.semAt_some
set_option maxHeartbeats 4000000 in
set_option maxRecDepth 100000 in
theorem come_calls (t : TTree) (hF : t.Fits) (A : Option Addr) (cap : Nat) (deepest u g m d : Int) (l sb b1 b2 b3 b4 b5 b6 M : Nat) (J : (Nat → Prop) → List TStep → List ByteArray → World → Prop) (hJ : JOK Tryz.prog 63 l sb M J) (W0 : World) (hA : NodesAt W0 A t.nodes) :
    ∀ (fuel : Nat) (n : Int) (path : ByteArray) (depth : Int) (O : Nat → Prop) (o : List TStep) (s : List ByteArray) (W : World), Fuel t fuel n path.size → 0 ≤ depth → depth + fuel ≤ 100000 →
      Cap 145 63 W O b1 b2 b3 b4 b5 b6 A t.nodes.length cap deepest u g m d l sb → J O o s W → (∀ k, O k → W0.heap.size ≤ k) → Below W0.heap.size W0 W →
      o.length + (walkP t u g deepest fuel n path depth).1.length ≤ M → s.length + (walkP t u g deepest fuel n path depth).2.length ≤ M →
      Calls Tryz.prog 145 #[.agg #[.string path, .int .i64 n, .int .i64 depth, .bool false], .pointer (some ⟨b1, 0, none⟩), .pointer (some ⟨b2, 0, none⟩), .pointer (some ⟨b3, 0, none⟩), .pointer (some ⟨b4, 0, none⟩), .pointer (some ⟨b5, 0, none⟩), .pointer (some ⟨b6, 0, none⟩)] W fun e W' =>
        e = .returned (.bool true) ∧ Went J O (o ++ (walkP t u g deepest fuel n path depth).1) (s ++ (walkP t u g deepest fuel n path depth).2) W W' := by
  intro fuel
  induction fuel with
  | zero => intro n path depth O o s W hfu; exact hfu.elim
  | succ f ih =>
    intro n path depth O o s W hfu hd0 hd1 hcap hj hO hB ho hs
    obtain ⟨hn0, hn1, hk, hkids⟩ := hfu
    obtain ⟨x, hx⟩ : ∃ x, t.nodes[n.toNat]? = some x := ⟨t.nodes[n.toNat]'(by omega), by simp⟩
    have hat : t.at n = x := by simp [TTree.at, hx]
    obtain ⟨bn, on, D, cd, L, cl, rfl, -, hD, -, hL, e0, e1, e2, e3, e4, e5, e6, e7, e8, e9⟩ := hA.get hx
    replace e0 := cell_keep hB e0
    replace e1 := cell_keep hB e1
    replace e2 := cell_keep hB e2
    replace e3 := cell_keep hB e3
    replace e4 := cell_keep hB e4
    replace e5 := cell_keep hB e5
    replace e6 := cell_keep hB e6
    replace e7 := cell_keep hB e7
    replace e8 := cell_keep hB e8
    replace e9 := cell_keep hB e9
    have HCAP := Lib.hid hcap
    have HJ := Lib.hid hj
    have HO := Lib.hid hO
    have HB := Lib.hid hB
    have HIH := Lib.hid ih
    have HK := Lib.hid hkids
    have HD := Lib.hid hD
    have HL := Lib.hid hL
    have HS := Lib.hid (And.intro ho hs)
    have HX := Lib.hid hat
    have HXF := Lib.hid (hF.each x (List.mem_of_getElem? hx))
    have k1 := hcap.t0
    have hnn : ((n.toNat : Nat) : Int) = n := by omega
    clear hcap hj hO hB ih hkids hD hL ho hs hat hx
    go_enter Tryz.func145, Tryz.ntmps145
    go_upto_region 1 with fail
    obtain ⟨wb, hwb⟩ : ∃ y, y = W.alloc (.cells #[.string path, .int .i64 n, .int .i64 depth, .bool false] 111) := ⟨_, rfl⟩
    have hBb : Below W.heap.size W wb := by rw [hwb]; exact below_alloc (Below.refl _ _) _
    have hrs : wb.heap[W.heap.size]? = some (.cells #[.string path, .int .i64 n, .int .i64 depth, .bool false] 111 (0, 0)) := by rw [hwb]; exact heap_alloc_new W _
    rw [← hwb]
    clear hwb
    replace k1 := cell_keep hBb k1
    replace e0 := cell_keep hBb e0
    replace e1 := cell_keep hBb e1
    replace e2 := cell_keep hBb e2
    replace e3 := cell_keep hBb e3
    replace e4 := cell_keep hBb e4
    replace e5 := cell_keep hBb e5
    replace e6 := cell_keep hBb e6
    replace e7 := cell_keep hBb e7
    replace e8 := cell_keep hBb e8
    replace e9 := cell_keep hBb e9
    obtain ⟨hs, hhs⟩ : ∃ y, y = W.heap.size := ⟨_, rfl⟩
    rw [← hhs] at hrs
    rw [← hhs]
    have HHS := Lib.hid hhs
    clear hhs
    have s1 : wb.cell? ⟨hs, 1, none⟩ = some (.int .i64 n) := (cell_of_row wb hs 1 _ _ _ hrs).trans rfl
    go_upto_region 2 with fail
    obtain ⟨wc, hwc⟩ : ∃ y, y = wb.alloc (.cells #[.int .u8 x.kind, .int .i64 x.mode, .int .i64 x.user, .int .i64 x.group, .int .i64 x.links, .int .i64 x.time, .slice D x.data.length cd, .string x.target, .slice L x.list.length cl, .int .i64 x.parent] 80) := ⟨_, rfl⟩
    have hBc : Below wb.heap.size wb wc := by rw [hwc]; exact below_alloc (Below.refl _ _) _
    have hrn : wc.heap[wb.heap.size]? = some (.cells #[.int .u8 x.kind, .int .i64 x.mode, .int .i64 x.user, .int .i64 x.group, .int .i64 x.links, .int .i64 x.time, .slice D x.data.length cd, .string x.target, .slice L x.list.length cl, .int .i64 x.parent] 80 (0, 0)) := by rw [hwc]; exact heap_alloc_new wb _
    have hrs2 := (hBc.block hs (Array.getElem?_eq_some_iff.1 hrs).1).trans hrs
    rw [← hwc]
    obtain ⟨hn, hhn⟩ : ∃ y, y = wb.heap.size := ⟨_, rfl⟩
    rw [← hhn] at hrn
    rw [← hhn]
    have hBW := below_step hBb hBc
    have HBW := Lib.hid hBW
    have hblk : b1 < hs ∧ b2 < hs ∧ b3 < hs ∧ b4 < hs ∧ b5 < hs ∧ b6 < hs := by rw [HHS.out]; exact HCAP.out.blocks
    have HBLK := Lib.hid hblk
    have hne : hn ≠ hs := by have := (Array.getElem?_eq_some_iff.1 hrs).1; omega
    have HNE := Lib.hid hne
    have hsW : W.heap.size ≤ hs := by have := HHS.out; omega
    clear hblk hne
    have hoff : ¬ O hs ∧ ¬ O hn := by
      have h1 := hJ.lt O o s W HJ.out
      refine ⟨fun h => ?_, fun h => ?_⟩
      · have := h1 _ h; have := HHS.out; omega
      · have := h1 _ h; have := hBb.size; omega
    have HOFF := Lib.hid hoff
    have HRS := Lib.hid hrs2
    have HRN := Lib.hid hrn
    have HCC := Lib.hid (HCAP.out.keep hBW)
    have HJC := Lib.hid (hJ.keep HJ.out hBW)
    clear hwc hhn hBb hBc hrs hrs2 hrn hBW hoff k1 s1 e0 e1 e2 e3 e4 e5 e6 e7 e8 e9 HJ HCAP HHS
    have y1 := HCC.out.y
    have s0 : wc.cell? ⟨hs, 0, none⟩ = some (.string path) := (cell_of_row wc hs 0 _ _ _ HRS.out).trans rfl
    have s1 : wc.cell? ⟨hs, 1, none⟩ = some (.int .i64 n) := (cell_of_row wc hs 1 _ _ _ HRS.out).trans rfl
    have s2 : wc.cell? ⟨hs, 2, none⟩ = some (.int .i64 depth) := (cell_of_row wc hs 2 _ _ _ HRS.out).trans rfl
    have s3 : wc.cell? ⟨hs, 3, none⟩ = some (.bool false) := (cell_of_row wc hs 3 _ _ _ HRS.out).trans rfl
    have hol : o.length < M := by
      have h1 := HS.out.1
      simp only [walkP] at h1
      split at h1 <;> simp at h1 <;> omega
    obtain ⟨fn, tmps, assign, body, hy, hR⟩ := hJ.yield 1000 O o s ⟨path, n, depth, false⟩ wc HJC.out hol
    dsimp only [TStep.val, TStep.cells] at hy
    refine (wpIn_wide (n := 1001)).1 ?_
    gi_wp2_with (refine hR.mono ?_; clear hR; rintro _ w2 ⟨rfl, hw2⟩)
    have h0 : Here Tryz.prog 145 63 J W O hs hn #[.string path, .int .i64 n, .int .i64 depth, .bool false] #[.int .u8 x.kind, .int .i64 x.mode, .int .i64 x.user, .int .i64 x.group, .int .i64 x.links, .int .i64 x.time, .slice D x.data.length cd, .string x.target, .slice L x.list.length cl, .int .i64 x.parent] 111 80 b1 b2 b3 b4 b5 b6 (some ⟨bn, on, none⟩) t.nodes.length cap deepest u g m d l sb o s wc O := ⟨HJC.out, turned_below HBW.out, fun _ h => .inl h, HRS.out, HRN.out, HCC.out, HOFF.out.1, HOFF.out.2⟩
    obtain ⟨O2, hh2⟩ := h0.step hw2
    have HH2 := Lib.hid hh2
    clear h0 hw2 hh2 hy y1 s0 s1 s2 s3 HJC HRS HRN HCC
    have n0 : w2.cell? ⟨hn, 0, none⟩ = some (.int .u8 x.kind) := (cell_of_row w2 hn 0 _ _ _ HH2.out.rn).trans rfl
    by_cases hk2 : x.kind = 2
    · have HK2 := Lib.hid hk2
      have hkd : decide (x.kind = 2) = true := decide_eq_true hk2
      have hkb : (x.kind == 2) = true := by rw [hk2]; rfl
      clear hk2
      have s2 : w2.cell? ⟨hs, 2, none⟩ = some (.int .i64 depth) := (cell_of_row w2 hs 2 _ _ _ HH2.out.rs).trans rfl
      have p1 := HH2.out.cap.dp
      by_cases hdd : depth < deepest
      · have hdb : decide (depth < deepest) = true := decide_eq_true hdd
        have n1 : w2.cell? ⟨hn, 1, none⟩ = some (.int .i64 x.mode) := (cell_of_row w2 hn 1 _ _ _ HH2.out.rn).trans rfl
        have n2 : w2.cell? ⟨hn, 2, none⟩ = some (.int .i64 x.user) := (cell_of_row w2 hn 2 _ _ _ HH2.out.rn).trans rfl
        have n3 : w2.cell? ⟨hn, 3, none⟩ = some (.int .i64 x.group) := (cell_of_row w2 hn 3 _ _ _ HH2.out.rn).trans rfl
        have n4 : w2.cell? ⟨hn, 4, none⟩ = some (.int .i64 x.links) := (cell_of_row w2 hn 4 _ _ _ HH2.out.rn).trans rfl
        have n5 : w2.cell? ⟨hn, 5, none⟩ = some (.int .i64 x.time) := (cell_of_row w2 hn 5 _ _ _ HH2.out.rn).trans rfl
        have n6 : w2.cell? ⟨hn, 6, none⟩ = some (.slice D x.data.length cd) := (cell_of_row w2 hn 6 _ _ _ HH2.out.rn).trans rfl
        have n7 : w2.cell? ⟨hn, 7, none⟩ = some (.string x.target) := (cell_of_row w2 hn 7 _ _ _ HH2.out.rn).trans rfl
        have n8 : w2.cell? ⟨hn, 8, none⟩ = some (.slice L x.list.length cl) := (cell_of_row w2 hn 8 _ _ _ HH2.out.rn).trans rfl
        have n9 : w2.cell? ⟨hn, 9, none⟩ = some (.int .i64 x.parent) := (cell_of_row w2 hn 9 _ _ _ HH2.out.rn).trans rfl
        have q0 := HH2.out.cap.e0
        have q1 := HH2.out.cap.e1
        have q2 := HH2.out.cap.e2
        have q3 := HH2.out.cap.e3
        cases hmay : mayB x u g 5 with
        | false =>
          have hw : walkP t u g deepest (f + 1) n path depth = ([⟨path, n, depth, false⟩, ⟨path, n, depth, true⟩], [path]) := by
            rw [walkP, HX.out, if_pos HK2.out]
            simp [kidsOf, shutOf, if_pos hdd, hmay]
          have HW := Lib.hid hw
          have hsl : s.length < M := by
            have h1 := HS.out.2
            rw [hw] at h1
            simp at h1
            omega
          clear hw hdd
          go_upto_region 9 with (go_at_call 38; refine (may_calls x HXF.out D L cd cl u g m d 5 (by decide) (by decide) _).mono ?_; rintro _ w3 ⟨rfl, hb3⟩; rw [hmay])
          have HH3 := Lib.hid (HH2.out.keep hJ hb3)
          clear hb3 n0 n1 n2 n3 n4 n5 n6 n7 n8 n9 q0 q1 q2 q3 s2 p1
          have r5 := HH3.out.cap.sh
          have s0 : w3.cell? ⟨hs, 0, none⟩ = some (.string path) := (cell_of_row w3 hs 0 _ _ _ HH3.out.rs).trans rfl
          go_wp2_with (go_at_call 63; refine (hJ.shut O2 _ s path _ HH3.out.j hsl).mono ?_; rintro _ w6 ⟨rfl, hw6⟩)
          obtain ⟨O6, hh6⟩ := HH3.out.step hw6
          have HH6 := Lib.hid hh6
          clear hh6 hw6 r5 s0
          go_loopg [42] 0 (fun gz s42 wr => gz = 0 ∧ s42 = .int .i64 0 ∧ Hid (Here Tryz.prog 145 63 J W O hs hn #[.string path, .int .i64 n, .int .i64 depth, .bool false] #[.int .u8 x.kind, .int .i64 x.mode, .int .i64 x.user, .int .i64 x.group, .int .i64 x.links, .int .i64 x.time, .slice D x.data.length cd, .string x.target, .slice L x.list.length cl, .int .i64 x.parent] 111 80 b1 b2 b3 b4 b5 b6 (some ⟨bn, on, none⟩) t.nodes.length cap deepest u g m d l sb (o ++ [(⟨path, n, depth, false⟩ : TStep)]) (s ++ [path]) wr O6))
          case atStart => exact ⟨rfl, rfl, HH6⟩
          case round =>
            clear HH6
            obtain ⟨rfl, rfl, HH6⟩ := hrel
            go_upto_region 17 with fail
            have z3 : wr.cell? ⟨hs, 3, none⟩ = some (.bool false) := (cell_of_row wr hs 3 _ _ _ HH6.out.rs).trans rfl
            have zf : wr.frozen? ⟨hs, 3, none⟩ = false := frozen_of_row wr hs 3 _ _ HH6.out.rs
            go_upto_region 18 with fail
            have ha4 := HH6.out.after hJ hsW HBLK.out HNE.out 3 (.bool true)
            obtain ⟨w4, hw4⟩ : ∃ y, y = wr.setCell ⟨hs, 3, none⟩ (.bool true) := ⟨_, rfl⟩
            rw [← hw4] at ha4
            rw [← hw4]
            have HA4 : Hid (Here Tryz.prog 145 63 J W O hs hn #[.string path, .int .i64 n, .int .i64 depth, .bool true] #[.int .u8 x.kind, .int .i64 x.mode, .int .i64 x.user, .int .i64 x.group, .int .i64 x.links, .int .i64 x.time, .slice D x.data.length cd, .string x.target, .slice L x.list.length cl, .int .i64 x.parent] 111 80 b1 b2 b3 b4 b5 b6 (some ⟨bn, on, none⟩) t.nodes.length cap deepest u g m d l sb (o ++ [(⟨path, n, depth, false⟩ : TStep)]) (s ++ [path]) w4 O6) := Lib.hid ha4
            clear hw4 ha4 z3 zf
            have z0 : w4.cell? ⟨hs, 0, none⟩ = some (.string path) := (cell_of_row w4 hs 0 _ _ _ HA4.out.rs).trans rfl
            have z1 : w4.cell? ⟨hs, 1, none⟩ = some (.int .i64 n) := (cell_of_row w4 hs 1 _ _ _ HA4.out.rs).trans rfl
            have z2 : w4.cell? ⟨hs, 2, none⟩ = some (.int .i64 depth) := (cell_of_row w4 hs 2 _ _ _ HA4.out.rs).trans rfl
            have z3 : w4.cell? ⟨hs, 3, none⟩ = some (.bool true) := (cell_of_row w4 hs 3 _ _ _ HA4.out.rs).trans rfl
            have zy := HA4.out.cap.y
            have hol5 : (o ++ [(⟨path, n, depth, false⟩ : TStep)]).length < M := by
              have h1 := HS.out.1
              rw [HW.out] at h1
              simp at h1
              simp
              omega
            obtain ⟨fn5, tmps5, assign5, body5, hy5, hR5⟩ := hJ.yield 1000 O6 (o ++ [(⟨path, n, depth, false⟩ : TStep)]) (s ++ [path]) ⟨path, n, depth, true⟩ w4 HA4.out.j hol5
            dsimp only [TStep.val, TStep.cells] at hy5
            refine (wpIn_wide (n := 1001)).1 ?_
            gi_wp2_with (refine hR5.mono ?_; clear hR5; rintro _ w5 ⟨rfl, hw5⟩)
            obtain ⟨O5, hh5⟩ := HA4.out.step hw5
            have hw5 := hh5.went
            clear hh5
            go_wp2
            go_ret
            rw [HW.out]
            rw [List.append_assoc] at hw5
            exact ⟨rfl, hw5⟩
        | true =>
          have hw : walkP t u g deepest (f + 1) n path depth = ((⟨path, n, depth, false⟩ : TStep) :: x.list.flatMap (fun e : TEnt => (walkP t u g deepest f e.node (joinB path e.name) (depth + 1)).1) ++ [⟨path, n, depth, true⟩], x.list.flatMap (fun e : TEnt => (walkP t u g deepest f e.node (joinB path e.name) (depth + 1)).2)) := by
            rw [walkP, HX.out, if_pos HK2.out]
            simp [kidsOf, shutOf, if_pos hdd, hmay]
          have HW := Lib.hid hw
          clear hw hdd
          go_upto_region 11 with (go_at_call 38; refine (may_calls x HXF.out D L cd cl u g m d 5 (by decide) (by decide) _).mono ?_; rintro _ w3 ⟨rfl, hb3⟩; rw [hmay])
          have HH3 := Lib.hid (HH2.out.keep hJ hb3)
          clear hb3 n0 n1 n2 n3 n4 n5 n6 n7 n8 n9 q0 q1 q2 q3 s2 p1
          have hlen := HXF.out.list
          go_wp2
          go_loopg [42] x.list.length (fun gz s42 wr => ∃ (i : Nat) (Oi : Nat → Prop), i + gz = x.list.length ∧ s42 = .int .i64 i ∧ Hid (Here Tryz.prog 145 63 J W O hs hn #[.string path, .int .i64 n, .int .i64 depth, .bool false] #[.int .u8 x.kind, .int .i64 x.mode, .int .i64 x.user, .int .i64 x.group, .int .i64 x.links, .int .i64 x.time, .slice D x.data.length cd, .string x.target, .slice L x.list.length cl, .int .i64 x.parent] 111 80 b1 b2 b3 b4 b5 b6 (some ⟨bn, on, none⟩) t.nodes.length cap deepest u g m d l sb (o ++ [(⟨path, n, depth, false⟩ : TStep)] ++ (x.list.take i).flatMap (fun e : TEnt => (walkP t u g deepest f e.node (joinB path e.name) (depth + 1)).1)) (s ++ (x.list.take i).flatMap (fun e : TEnt => (walkP t u g deepest f e.node (joinB path e.name) (depth + 1)).2)) wr Oi))
          case atStart => exact ⟨0, O2, by omega, rfl, by simpa using HH3⟩
          case round =>
            clear HH3
            obtain ⟨i, Oi, hig, rfl, HHi⟩ := hrel
            cases gk with
            | zero =>
              obtain rfl : i = x.list.length := by omega
              rw [List.take_of_length_le (Nat.le_refl _)] at HHi
              go_upto_region 17 with fail
              have z3 : wr.cell? ⟨hs, 3, none⟩ = some (.bool false) := (cell_of_row wr hs 3 _ _ _ HHi.out.rs).trans rfl
              have zf : wr.frozen? ⟨hs, 3, none⟩ = false := frozen_of_row wr hs 3 _ _ HHi.out.rs
              go_upto_region 18 with fail
              have ha4 := HHi.out.after hJ hsW HBLK.out HNE.out 3 (.bool true)
              obtain ⟨w4, hw4⟩ : ∃ y, y = wr.setCell ⟨hs, 3, none⟩ (.bool true) := ⟨_, rfl⟩
              rw [← hw4] at ha4
              rw [← hw4]
              have HA4 : Hid (Here Tryz.prog 145 63 J W O hs hn #[.string path, .int .i64 n, .int .i64 depth, .bool true] #[.int .u8 x.kind, .int .i64 x.mode, .int .i64 x.user, .int .i64 x.group, .int .i64 x.links, .int .i64 x.time, .slice D x.data.length cd, .string x.target, .slice L x.list.length cl, .int .i64 x.parent] 111 80 b1 b2 b3 b4 b5 b6 (some ⟨bn, on, none⟩) t.nodes.length cap deepest u g m d l sb ((o ++ [(⟨path, n, depth, false⟩ : TStep)] ++ x.list.flatMap (fun e : TEnt => (walkP t u g deepest f e.node (joinB path e.name) (depth + 1)).1))) (s ++ x.list.flatMap (fun e : TEnt => (walkP t u g deepest f e.node (joinB path e.name) (depth + 1)).2)) w4 Oi) := Lib.hid ha4
              clear hw4 ha4 z3 zf
              have z0 : w4.cell? ⟨hs, 0, none⟩ = some (.string path) := (cell_of_row w4 hs 0 _ _ _ HA4.out.rs).trans rfl
              have z1 : w4.cell? ⟨hs, 1, none⟩ = some (.int .i64 n) := (cell_of_row w4 hs 1 _ _ _ HA4.out.rs).trans rfl
              have z2 : w4.cell? ⟨hs, 2, none⟩ = some (.int .i64 depth) := (cell_of_row w4 hs 2 _ _ _ HA4.out.rs).trans rfl
              have z3 : w4.cell? ⟨hs, 3, none⟩ = some (.bool true) := (cell_of_row w4 hs 3 _ _ _ HA4.out.rs).trans rfl
              have zy := HA4.out.cap.y
              have hol5 : ((o ++ [(⟨path, n, depth, false⟩ : TStep)] ++ x.list.flatMap (fun e : TEnt => (walkP t u g deepest f e.node (joinB path e.name) (depth + 1)).1))).length < M := by
                have h1 := HS.out.1
                rw [HW.out] at h1
                simp at h1
                simp
                omega
              obtain ⟨fn5, tmps5, assign5, body5, hy5, hR5⟩ := hJ.yield 1000 Oi ((o ++ [(⟨path, n, depth, false⟩ : TStep)] ++ x.list.flatMap (fun e : TEnt => (walkP t u g deepest f e.node (joinB path e.name) (depth + 1)).1))) (s ++ x.list.flatMap (fun e : TEnt => (walkP t u g deepest f e.node (joinB path e.name) (depth + 1)).2)) ⟨path, n, depth, true⟩ w4 HA4.out.j hol5
              dsimp only [TStep.val, TStep.cells] at hy5
              refine (wpIn_wide (n := 1001)).1 ?_
              gi_wp2_with (refine hR5.mono ?_; clear hR5; rintro _ w5 ⟨rfl, hw5⟩)
              obtain ⟨O5, hh5⟩ := HA4.out.step hw5
              have hw5 := hh5.went
              clear hh5
              go_wp2
              go_ret
              rw [HW.out]
              rw [List.append_assoc, List.append_assoc] at hw5
              refine ⟨rfl, ?_⟩
              simpa using hw5
            | succ gz =>
              obtain ⟨e, he⟩ : ∃ e, x.list[i]? = some e := ⟨x.list[i]'(by omega), by simp⟩
              obtain ⟨bl, ol, rfl, l0, l1⟩ := (HL.out.keep (HHi.out.low HO.out HB.out).2) i e he
              have hin : i < x.list.length := by omega
              have hdi : decide (i < x.list.length) = true := decide_eq_true hin
              have hdz : decide ((i : Int) < (x.list.length : Int)) = true := decide_eq_true (by omega)
              go_upto_region 14 with fail
              obtain ⟨we, hwe⟩ : ∃ y, y = wr.alloc (.cells #[.string e.name, .int .i64 e.node] 162) := ⟨_, rfl⟩
              have hBe : Below wr.heap.size wr we := by rw [hwe]; exact below_alloc (Below.refl _ _) _
              have hre : we.heap[wr.heap.size]? = some (.cells #[.string e.name, .int .i64 e.node] 162 (0, 0)) := by rw [hwe]; exact heap_alloc_new wr _
              rw [← hwe]
              obtain ⟨hx1, hhx⟩ : ∃ y, y = wr.heap.size := ⟨_, rfl⟩
              rw [← hhx] at hre
              rw [← hhx]
              have HBE := Lib.hid hBe
              have hhe := HHi.out.keep hJ (wr' := we.drew) hBe.drew
              have HHe := Lib.hid hhe
              clear hwe hhx hBe
              have m0 : we.cell? ⟨hx1, 0, none⟩ = some (.string e.name) := (cell_of_row we hx1 0 _ _ _ hre).trans rfl
              have m1 : we.cell? ⟨hx1, 1, none⟩ = some (.int .i64 e.node) := (cell_of_row we hx1 1 _ _ _ hre).trans rfl
              have m6 : we.cell? ⟨b6, 0, none⟩ = _ := hhe.cap.cm
              have s0 : we.cell? ⟨hs, 0, none⟩ = some (.string path) := (cell_of_row we.drew hs 0 _ _ _ hhe.rs).trans rfl
              have s2 : we.cell? ⟨hs, 2, none⟩ = some (.int .i64 depth) := (cell_of_row we.drew hs 2 _ _ _ hhe.rs).trans rfl
              clear hre hhe l0 l1
              have hkk := HK.out (by rw [HX.out]; exact HK2.out) e (by rw [HX.out]; exact List.mem_of_getElem? he)
              have HKK := Lib.hid hkk
              have hfl := take_flat (fun e : TEnt => (walkP t u g deepest f e.node (joinB path e.name) (depth + 1)).1) he
              have hfl2 := take_flat (fun e : TEnt => (walkP t u g deepest f e.node (joinB path e.name) (depth + 1)).2) he
              have hb1 := take_flat_le x.list (i + 1) (fun e : TEnt => (walkP t u g deepest f e.node (joinB path e.name) (depth + 1)).1)
              have hb2 := take_flat_le x.list (i + 1) (fun e : TEnt => (walkP t u g deepest f e.node (joinB path e.name) (depth + 1)).2)
              have HFL := Lib.hid (And.intro hfl hfl2)
              have hlen1 : (o ++ [(⟨path, n, depth, false⟩ : TStep)] ++ (x.list.take i).flatMap (fun e : TEnt => (walkP t u g deepest f e.node (joinB path e.name) (depth + 1)).1)).length + (walkP t u g deepest f e.node (joinB path e.name) (depth + 1)).1.length ≤ M := by
                have h1 := HS.out.1
                rw [HW.out] at h1
                rw [hfl] at hb1
                simp only [List.length_append, List.length_cons, List.length_nil] at h1 hb1 ⊢
                omega
              have hlen2 : (s ++ (x.list.take i).flatMap (fun e : TEnt => (walkP t u g deepest f e.node (joinB path e.name) (depth + 1)).2)).length + (walkP t u g deepest f e.node (joinB path e.name) (depth + 1)).2.length ≤ M := by
                have h1 := HS.out.2
                rw [HW.out] at h1
                rw [hfl2] at hb2
                simp only [List.length_append] at h1 hb2 ⊢
                omega
              have HLEN := Lib.hid (And.intro hlen1 hlen2)
              clear hkk hfl hfl2 hb1 hb2 hlen1 hlen2 he
              refine wp_region_still_tail 12 (by kernel_rfl) (by kernel_rfl) ?_
              simp only [List.take_succ_cons, List.take_zero, List.drop_succ_cons, List.drop_zero]
              still_step
              still_step
              still_step
              still_step
              still_step
              still_call (join_same _ _ path e.name _ (pjoin_calls path e.name hk HKK.out.1 _))
              still_step
              still_step
              still_step
              still_step
              still_step
              still_step
              refine wpStill_nil ?_
              change wpList _ _ _ _ _ we.drew
              go_wp2_with (go_at_call 145; refine (HIH.out e.node (joinB path e.name) (depth + 1) Oi _ _ we.drew (HKK.out.2.mono (joinB_size _ _)) (by omega) (by push_cast at hd1; omega) HHe.out.cap HHe.out.j (HHe.out.low HO.out HB.out).1 (HHe.out.low HO.out HB.out).2 HLEN.out.1 HLEN.out.2).mono ?_; rintro _ w6 ⟨rfl, hw6⟩)
              obtain ⟨O6, hh6⟩ := HHe.out.step hw6
              rw [List.append_assoc _ (List.flatMap _ _), List.append_assoc s, ← HFL.out.1, ← HFL.out.2] at hh6
              have HH6 := Lib.hid hh6
              clear hh6 hw6
              go_roundg gz
              case measure => omega
              case rel => exact ⟨i + 1, O6, by omega, by go_num, HH6⟩
      · have hdb : decide (depth < deepest) = false := decide_eq_false hdd
        have hw : walkP t u g deepest (f + 1) n path depth = ([⟨path, n, depth, false⟩, ⟨path, n, depth, true⟩], []) := by
          rw [walkP, HX.out, if_pos HK2.out]
          simp [kidsOf, shutOf, if_neg hdd]
        have HW := Lib.hid hw
        clear hw hdd
        go_upto_region 17 with fail
        have z3 : w2.cell? ⟨hs, 3, none⟩ = some (.bool false) := (cell_of_row w2 hs 3 _ _ _ HH2.out.rs).trans rfl
        have zf : w2.frozen? ⟨hs, 3, none⟩ = false := frozen_of_row w2 hs 3 _ _ HH2.out.rs
        go_upto_region 18 with fail
        have ha4 := HH2.out.after hJ hsW HBLK.out HNE.out 3 (.bool true)
        obtain ⟨w4, hw4⟩ : ∃ y, y = w2.setCell ⟨hs, 3, none⟩ (.bool true) := ⟨_, rfl⟩
        rw [← hw4] at ha4
        rw [← hw4]
        have HA4 : Hid (Here Tryz.prog 145 63 J W O hs hn #[.string path, .int .i64 n, .int .i64 depth, .bool true] #[.int .u8 x.kind, .int .i64 x.mode, .int .i64 x.user, .int .i64 x.group, .int .i64 x.links, .int .i64 x.time, .slice D x.data.length cd, .string x.target, .slice L x.list.length cl, .int .i64 x.parent] 111 80 b1 b2 b3 b4 b5 b6 (some ⟨bn, on, none⟩) t.nodes.length cap deepest u g m d l sb (o ++ [(⟨path, n, depth, false⟩ : TStep)]) s w4 O2) := Lib.hid ha4
        clear hw4 ha4 z3 zf
        have z0 : w4.cell? ⟨hs, 0, none⟩ = some (.string path) := (cell_of_row w4 hs 0 _ _ _ HA4.out.rs).trans rfl
        have z1 : w4.cell? ⟨hs, 1, none⟩ = some (.int .i64 n) := (cell_of_row w4 hs 1 _ _ _ HA4.out.rs).trans rfl
        have z2 : w4.cell? ⟨hs, 2, none⟩ = some (.int .i64 depth) := (cell_of_row w4 hs 2 _ _ _ HA4.out.rs).trans rfl
        have z3 : w4.cell? ⟨hs, 3, none⟩ = some (.bool true) := (cell_of_row w4 hs 3 _ _ _ HA4.out.rs).trans rfl
        have zy := HA4.out.cap.y
        have hol5 : (o ++ [(⟨path, n, depth, false⟩ : TStep)]).length < M := by
          have h1 := HS.out.1
          rw [HW.out] at h1
          simp at h1
          simp
          omega
        obtain ⟨fn5, tmps5, assign5, body5, hy5, hR5⟩ := hJ.yield 1000 O2 (o ++ [(⟨path, n, depth, false⟩ : TStep)]) s ⟨path, n, depth, true⟩ w4 HA4.out.j hol5
        dsimp only [TStep.val, TStep.cells] at hy5
        refine (wpIn_wide (n := 1001)).1 ?_
        gi_wp2_with (refine hR5.mono ?_; clear hR5; rintro _ w5 ⟨rfl, hw5⟩)
        obtain ⟨O5, hh5⟩ := HA4.out.step hw5
        have hw5 := hh5.went
        clear hh5
        go_wp2
        go_ret
        rw [HW.out, List.append_nil]
        rw [List.append_assoc] at hw5
        exact ⟨rfl, hw5⟩
    · have hw : walkP t u g deepest (f + 1) n path depth = ([⟨path, n, depth, false⟩], []) := by rw [walkP, HX.out, if_neg hk2]
      have HW := Lib.hid hw
      clear hw
      go_wp2
      go_ret
      rw [HW.out, List.append_nil]
      exact ⟨rfl, HH2.out.went⟩
end Go.Proofs.YtbfcfjgcmideeaaGreatDoor
