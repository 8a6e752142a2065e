/- The law WalkAll: it answers true. -/
import Derived.Test.YtdceechakocgfaaDoorLives18
import Derived.Test.YtdceechakocgfaaDoorAllMem
import Derived.Test.YtdceechakocgfaaDoorSizes
namespace Go.Proofs.YtdceechakocgfaaDoor
open Go.RowKit
attribute [local go_sem] Later.cell_eq max2_i min2_i max_2 min_2 max_3 min_3
set_option maxHeartbeats 4000000 in
set_option maxRecDepth 100000 in
theorem lawAll_calls (t : TTree) (hF : t.Fits) (A : Option Addr) (c : Nat) (w : World) (hA : NodesAt w A t.nodes) :
    Calls Tryd.prog 4 #[.agg #[.slice A t.nodes.length c, .int .i64 t.now]] w fun e w' => e = .returned (.bool true) ∧ Below w.heap.size w w' := by
  have HF := Lib.hid hF
  have HA := Lib.hid hA
  clear hF hA
  go_enter Tryd.func4, Tryd.ntmps4
  go_upto_region 1 with fail
  obtain ⟨wa, hwa⟩ : ∃ y, y = w.alloc (.cells #[.slice A t.nodes.length c, .int .i64 t.now] 24) := ⟨_, rfl⟩
  have HB : Hid (Below w.heap.size w wa) := Lib.hid (by rw [hwa]; exact below_alloc (Below.refl _ _) _)
  have x0 : wa.cell? ⟨w.heap.size, 0, none⟩ = some (.slice A t.nodes.length c) := by rw [hwa]; simp [go_sem]
  have x1 : wa.cell? ⟨w.heap.size, 1, none⟩ = some (.int .i64 t.now) := by rw [hwa]; simp [go_sem]
  rw [← hwa]
  obtain ⟨bt, hbt⟩ : ∃ y, y = w.heap.size := ⟨_, rfl⟩
  rw [← hbt] at x0 x1
  rw [← hbt]
  have HBT := Lib.hid hbt
  clear hwa hbt
  cases hok : treeOK t with
  | false =>
    have HO := Lib.hid hok
    clear hok
    go_upto_region 3 with (first
      | (go_at_call 6; refine (lives18_calls _).mono ?_; rintro _ w2 ⟨rfl, hb2⟩; replace HB := Lib.hid (below_step HB.out hb2); clear hb2)
      | (go_at_call 8; refine (check_calls t HF.out _ _ _ (HA.out.keep HB.out)).mono ?_; rintro _ w2 ⟨rfl, hb2⟩; rw [HO.out]; replace HB := Lib.hid (below_step HB.out hb2); replace x0 := cell_keep hb2 x0; replace x1 := cell_keep hb2 x1; clear hb2)
      | (go_at_call 5; refine (great18_calls t HF.out 0 0 0 0 0 ⟨#[]⟩ (by decide) A c _ (HA.out.keep HB.out)).mono ?_; rintro _ w1 ⟨b, ⟨rfl, -⟩, hb1⟩; replace HB := Lib.hid (below_step HB.out hb1); replace x0 := cell_keep hb1 x0; replace x1 := cell_keep hb1 x1; clear hb1; cases b))
    all_goals go_ret
    all_goals exact ⟨rfl, HB.out⟩
  | true =>
    have HO := Lib.hid hok
    have HOK := Lib.hid (TreeOK.of hok)
    clear hok
    go_upto_region 3 with (first
      | (go_at_call 6; refine (lives18_calls _).mono ?_; rintro _ w2 ⟨rfl, hb2⟩; replace HB := Lib.hid (below_step HB.out hb2); clear hb2)
      | (go_at_call 8; refine (check_calls t HF.out _ _ _ (HA.out.keep HB.out)).mono ?_; rintro _ w2 ⟨rfl, hb2⟩; rw [HO.out]; replace HB := Lib.hid (below_step HB.out hb2); replace x0 := cell_keep hb2 x0; replace x1 := cell_keep hb2 x1; clear hb2)
      | (go_at_call 5; refine (great18_calls t HF.out 0 0 0 0 0 ⟨#[]⟩ (by decide) A c _ (HA.out.keep HB.out)).mono ?_; rintro _ w1 ⟨b, ⟨rfl, -⟩, hb1⟩; replace HB := Lib.hid (below_step HB.out hb1); replace x0 := cell_keep hb1 x0; replace x1 := cell_keep hb1 x1; clear hb1; cases b))
    · obtain ⟨hr2, hr1⟩ := root_find HOK.out
      obtain ⟨R, hR⟩ : ∃ y, findS t 0 0 0 1 rootP.data.toList false = y := ⟨_, rfl⟩
      rw [hR] at hr1 hr2
      have HR := Lib.hid hR
      have HR1 := Lib.hid hr1
      have HZ : Hid (R.2 = 0 ∧ R.1.node ≠ 0) := Lib.hid ⟨hr2, by rw [hr1]; decide⟩
      have HSH : Hid ((walkP t 0 0 33 40 1 rootP 0).2 = []) := Lib.hid (walk_shut HOK.out 0 40 1 rootP 0)
      have HWY : Hid ((walkP t 0 0 33 40 1 rootP 0).1 = wayR t 0) := Lib.hid rfl
      obtain ⟨L, hL⟩ : ∃ y, y = wayR t 0 := ⟨_, rfl⟩
      have HL := Lib.hid hL
      rw [← hL] at HWY
      clear hr1 hr2 hR hL
      go_upto_region 4 with (go_at_call 7; refine (walk_went t HF.out 0 0 0 1 33 rootP (by decide) A c _ (HA.out.keep HB.out) R HR.out HZ.out).mono ?_; rw [HR1.out, HSH.out, HWY.out]; rintro _ w2 ⟨⟨S1, c1, V1, d1, rfl, hst⟩, hb2⟩; replace HB := Lib.hid (below_step HB.out hb2); have HS := Lib.hid hst; replace x0 := cell_keep hb2 x0; replace x1 := cell_keep hb2 x1; clear hb2 hst)
      have hmost := HOK.out.head.most
      have htwo := HOK.out.head.two
      have hmk := make_ints t.nodes.length (by omega)
      have hln : L.length ≤ 5000 := by rw [HL.out]; exact way_len HOK.out 0
      go_upto_region 7 with fail
      obtain ⟨gt, hgt⟩ : ∃ y, y = w2.heap.size := ⟨_, rfl⟩
      have hrow := intRow_made w2 t.nodes.length gt hgt
      obtain ⟨wm, hwm⟩ : ∃ y, y = w2.alloc (.cells (Array.replicate t.nodes.length (.int .i64 0)) 3) := ⟨_, rfl⟩
      have hbm : Below w2.heap.size w2 wm := by rw [hwm]; exact below_alloc (Below.refl _ _) _
      rw [← hwm] at hrow
      rw [← hwm, ← hgt]
      have hbl := World.block_lt_of_cell? _ _ x0
      dsimp only at hbl
      have hg2 : w2.heap.size ≤ gt := by omega
      have HM := Lib.hid hbm
      clear hwm hgt hmk hbm
      go_wp2
      go_loopg [7] L.length (fun gh s7 wr => ∃ (i : Nat) (T : List Int), i + gh = L.length ∧ s7 = .int .i64 i ∧ Below w2.heap.size w2 wr ∧ IntRow wr gt T ∧ T.length = t.nodes.length ∧ Hid (∀ j, j < t.nodes.length → T.getD j 0 = (cntL (L.take i) (j : Int) : Nat)))
      case atStart => exact ⟨0, List.replicate t.nodes.length 0, by omega, rfl, HM.out, hrow, by simp, Lib.hid fun j hj => by rw [getD_replicate0]; rfl⟩
      case round =>
        clear hrow
        obtain ⟨i, T, hgh, rfl, hb, hrow, hTl, hT⟩ := hrel
        have y0 := cell_keep hb x0
        have y1 := cell_keep hb x1
        cases gk with
        | zero =>
          obtain rfl : i = L.length := by omega
          have hlink : ∀ (j : Nat) (x : TNode), 1 ≤ j → t.nodes[j]? = some x → T.getD j 0 = if x.kind = 2 then 1 else x.links := fun j x h1 hx => by
            have hjl := (List.getElem?_eq_some_iff.1 hx).1
            rw [hT.out j hjl, List.take_length, HL.out, way_cnt]
            exact visR_links HOK.out 0 h1 hx (HF.out.each x (List.mem_of_getElem? hx)).kind
          have HLK := Lib.hid hlink
          have hd : decide (L.length < L.length) = false := decide_eq_false (by omega)
          obtain ⟨wo, rfl⟩ : ∃ wo : World, wo = wr := ⟨_, rfl⟩
          have ha1 := aims_one HOK.out
          clear hlink hT
          go_wp2
          go_loopg [8, 9] (t.nodes.length - 1) (fun gh s8 s9 wt => ∃ i : Nat, i + gh = t.nodes.length ∧ 1 ≤ i ∧ s8 = .int .i64 (t.aims i : Nat) ∧ s9 = .int .i64 i ∧ Below w2.heap.size w2 wt ∧ IntRow wt gt T)
          case atStart => exact ⟨1, by omega, by omega, by rw [ha1]; rfl, rfl, hb, hrow⟩
          case round =>
            clear hb hrow y0 y1
            obtain ⟨i, hgi, hi1, rfl, rfl, hb, hrow⟩ := hrel
            have y0 := cell_keep hb x0
            have y1 := cell_keep hb x1
            have hai := aims_le HOK.out i (by omega)
            cases gk with
            | zero =>
              obtain rfl : i = t.nodes.length := by omega
              have hd2 : decide (t.nodes.length < t.nodes.length) = false := decide_eq_false (by omega)
              have hby := HOK.out.bytes
              have hB1 : Hid (tBytes t = ((t.bytes t.nodes.length : Nat) : Int)) := Lib.hid (by unfold tBytes; rw [HO.out, if_pos rfl])
              have HBB := Lib.hid (below_step HB.out hb)
              have HSS := Lib.hid (HS.out.keep hb)
              obtain ⟨fs, hfs⟩ : ∃ y, y = tFiles t := ⟨_, rfl⟩
              obtain ⟨bs, hbs⟩ : ∃ y, y = t.bytes t.nodes.length := ⟨_, rfl⟩
              obtain ⟨am, has⟩ : ∃ y, y = t.aims t.nodes.length := ⟨_, rfl⟩
              have HBS := Lib.hid (And.intro hbs has)
              rw [← has] at hai
              rw [← has]
              rw [← hbs] at hby hB1
              clear hbs has hb hrow
              go_wp2_with (first
                | (go_at_call 6; refine (lives18_calls _).mono ?_; rintro _ w7 ⟨rfl, hb7⟩; replace HBB := Lib.hid (below_step HBB.out hb7); clear hb7)
                | (go_at_call 10; rw [HL.out]; refine (sz_way t HF.out HOK.out _ _ _ (HA.out.keep HBB.out) _ _ (by rw [← HL.out]; exact HSS.out)).mono ?_; rw [← HBS.out.1, ← HBS.out.2]; rintro _ w6 ⟨⟨gz, K, out, rfl, hro, ⟨hlo, hK5⟩, hlast⟩, hb6⟩; replace HBB := Lib.hid (below_step HBB.out hb6); have z1 := hro.cell K (by omega); rw [hlast] at z1; push_cast at z1; clear hb6 hro)
                | (go_at_call 9; refine (sizes_calls t HF.out _ _ _ (HA.out.keep HBB.out)).mono ?_; rintro _ w5 ⟨rfl, hb5⟩; rw [← hfs, hB1.out]; replace HBB := Lib.hid (below_step HBB.out hb5); replace HSS := Lib.hid (HSS.out.keep hb5); replace y0 := cell_keep hb5 y0; replace y1 := cell_keep hb5 y1; clear hb5))
              go_ret
              exact ⟨rfl, HBB.out⟩
            | succ gg =>
              obtain ⟨y, hy⟩ : ∃ y, t.nodes[i]? = some y := ⟨t.nodes[i]'(by omega), by simp⟩
              obtain ⟨b, o, D, cd, Ln, cl, rfl, -, -, -, -, n0, n1, n2, n3, n4, n5, n6, n7, n8, n9⟩ := (HA.out.keep (below_step HB.out hb)).get hy
              have hlk := HLK.out i y hi1 hy
              have hcell := hrow.cell i (by omega)
              have htg := target_le (HOK.out.each y (List.mem_of_getElem? hy))
              have hnx := aims_succ hy
              rw [hlk] at hcell
              have HN1 := Lib.hid hnx
              have hd2 : decide (i < t.nodes.length) = true := decide_eq_true (by omega)
              clear hy hlk hnx
              by_cases hk : y.kind = 2
              · rw [if_pos hk] at hcell
                have hkd : decide (y.kind = 2) = true := decide_eq_true hk
                have hkb : (y.kind == 2) = true := beq_iff_eq.2 hk
                clear hk
                go_wp2
                go_roundg gg
                case measure => omega
                case rel => exact ⟨i + 1, by omega, by omega, by rw [HN1.out]; push_cast; rfl, by go_num, hb, hrow⟩
              · rw [if_neg hk] at hcell
                have hkd : decide (y.kind = 2) = false := decide_eq_false hk
                have hkb : (y.kind == 2) = false := beq_eq_false_iff_ne.2 hk
                clear hk
                go_wp2
                go_roundg gg
                case measure => omega
                case rel => exact ⟨i + 1, by omega, by omega, by rw [HN1.out]; push_cast; rfl, by go_num, hb, hrow⟩
        | succ gg =>
          obtain ⟨x, hxi⟩ : ∃ x, L[i]? = some x := ⟨L[i]'(by omega), by simp⟩
          obtain ⟨bS, oS, rfl, s0, s1, s2, s3⟩ := HS.out i x hxi
          replace s0 := cell_keep hb s0
          replace s1 := cell_keep hb s1
          replace s3 := cell_keep hb s3
          have hrg := way_range HOK.out 0 x (by rw [← HL.out]; exact List.mem_of_getElem? hxi)
          obtain ⟨hn0, hn1⟩ := hrg
          have hcell := hrow.cell x.node.toNat (by omega)
          have hfree := hrow.free x.node.toNat
          rw [hT.out x.node.toNat (by omega)] at hcell
          have hcl : cntL (L.take i) ((x.node.toNat : Nat) : Int) ≤ 5000 := by
            unfold cntL
            refine Nat.le_trans List.count_le_length ?_
            rw [List.length_map]
            refine Nat.le_trans (List.length_filter_le _ _) ?_
            rw [List.length_take]; omega
          have hnext : ∀ j, cntL (L.take (i + 1)) j = cntL (L.take i) j + if x.after = false ∧ x.node = j then 1 else 0 := fun j => by
            rw [List.take_add_one, hxi]; exact cntL_snoc _ _ _
          obtain ⟨q, hq⟩ : ∃ q, q = cntL (L.take i) ((x.node.toNat : Nat) : Int) := ⟨_, rfl⟩
          rw [← hq] at hcell hcl
          have HQ := Lib.hid hq
          have HNX := Lib.hid hnext
          have hd : decide (i < L.length) = true := decide_eq_true (by omega)
          clear hq hnext hxi
          cases haf : x.after with
          | true =>
            rw [haf] at s3
            have HAF := Lib.hid haf
            clear haf
            go_wp2
            go_roundg gg
            case measure => omega
            case rel =>
              refine ⟨i + 1, T, by omega, by go_num, hb, hrow, hTl, Lib.hid fun j hj => ?_⟩
              rw [HNX.out, if_neg (by rw [HAF.out]; simp), Nat.add_zero]
              exact hT.out j hj
          | false =>
            rw [haf] at s3
            have HAF := Lib.hid haf
            clear haf
            go_wp2
            go_roundg gg
            case measure => omega
            case rel =>
              refine ⟨i + 1, T.set x.node.toNat ((q : Int) + 1), by omega, by go_num, hb.setCell (by dsimp only; omega) _, hrow.set_ _ _, by simp [hTl], Lib.hid fun j hj => ?_⟩
              rw [HNX.out]
              by_cases hjx : x.node = (j : Int)
              · have hj2 : j = x.node.toNat := by omega
                rw [if_pos ⟨HAF.out, hjx⟩, hj2, getD_set_self _ _ _ (by omega), HQ.out]
                push_cast; rfl
              · rw [if_neg (fun a => hjx a.2), Nat.add_zero, getD_set_other _ _ _ _ (by omega)]
                exact hT.out j hj
    · go_ret
      exact ⟨rfl, HB.out⟩
end Go.Proofs.YtdceechakocgfaaDoor
