/- walk.Sizes. -/
import Derived.Test.YtbfcfjgcmideeaaGreatDoorW2
import Derived.Test.YtbfcfjgcmideeaaGreatDoorSearch
import Derived.StillTailTactics
namespace Go.Proofs.YtbfcfjgcmideeaaGreatDoor
open Go.RowKit
open Go.Maps (Keyed)
attribute [local go_sem] Later.cell_eq
theorem sizeN_ok {x : TNode} (h : x.ok = true) : sizeN x ≤ 1000000 := by
  unfold TNode.ok TNode.byKind at h
  rw [Bool.and_eq_true] at h
  have h2 := h.2
  unfold sizeN
  split at h2
  · rw [TNode.k0, decide_eq_true_iff] at h2; omega
  · split at h2
    · rw [TNode.k1, decide_eq_true_iff] at h2; omega
    · split at h2
      · rw [TNode.k2, decide_eq_true_iff] at h2; omega
      · rw [TNode.k3, decide_eq_true_iff] at h2; omega
theorem sizeN_le {t : TTree} (h : TreeOK t) (n : Int) : 0 ≤ sizeN (t.at n) ∧ sizeN (t.at n) ≤ 1000000 := by
  refine ⟨by unfold sizeN; omega, ?_⟩
  cases hx : t.nodes[n.toNat]? with
  | some x => rw [at_eq hx]; exact sizeN_ok (h.each x (List.mem_of_getElem? hx))
  | none =>
    have : t.at n = zNode := by unfold TTree.at; rw [List.getD_eq_getElem?_getD, hx]; rfl
    rw [this]
    decide
theorem getD_app {a b : List Int} {i : Nat} (h : i < a.length) : (a ++ b).getD i 0 = a.getD i 0 := by
  rw [List.getD_eq_getElem?_getD, List.getElem?_append_left h, ← List.getD_eq_getElem?_getD]
theorem set_app {a : List Int} {n k : Nat} (v : Int) (h : a.length = k) : (a ++ List.replicate (n + 1) 0).set k v = a ++ [v] ++ List.replicate n 0 := by
  subst h
  rw [List.set_append_right _ _ (Nat.le_refl _), Nat.sub_self, List.replicate_succ, List.set_cons_zero, List.append_assoc]
  rfl
theorem set_app2 {a : List Int} {k : Nat} (u v : Int) (r : List Int) (h : a.length = k) : (a ++ [u] ++ r).set k v = a ++ [v] ++ r := by
  subst h
  rw [List.append_assoc, List.set_append_right _ _ (Nat.le_refl _), Nat.sub_self, List.append_assoc]
  rfl
theorem i64_wf {n : Int} (h : I64 n) : (Lit.int .i64 n).wf = true := by
  have h1 : IntKind.i64.min = -9223372036854775808 := by decide
  have h2 : IntKind.i64.max = 9223372036854775807 := by decide
  unfold I64 at h
  simp only [Lit.wf, h1, h2, Bool.and_eq_true, decide_eq_true_eq]
  exact h
theorem int_key (n : Int) (h : I64 n) : ∃ l, keyOf Tryz.prog 3 (.int .i64 n) = some l := ⟨_, Go.Maps.keyOf_int_mk Tryz.underlying3 (i64_wf h)⟩
theorem place_key' (x : TStep) (h1 : x.path.size ≤ 1000000) (h2 : I64 x.node) (h3 : I64 x.depth) : ∃ l, keyOf Tryz.prog 136 (placeV (x.path, x.node, x.depth)) = some l :=
  place_key _ (by dsimp only; unfold maxLen; omega) (i64_wf h2) (i64_wf h3)
theorem run_zero_int (w : World) : (zeroValue 3).run Tryz.prog w = .ok (.int .i64 0) w := by
  have hz : Tryz.t3.zero = some (.int .i64 0) := by kernel_rfl
  simp [zeroValue, go_sem, hz]
theorem make_map (t : TypeId) (w : World) : (Instr.makeMap t none).run Tryz.prog w = .ok (.map (some w.heap.size)) (w.alloc (.map #[] 0)) := by
  simp [Instr.makeMap, go_sem]
set_option maxHeartbeats 4000000 in
set_option maxRecDepth 100000 in
theorem sz_calls (t : TTree) (hF : t.Fits) (A : Option Addr) (c : Nat) (w : World) (hA : NodesAt w A t.nodes) (l : List TStep) (hl : l.length ≤ 900000) (S : Option Addr) (cs : Nat) (hS : StepsAt w S l) (hx : ∀ x ∈ l, x.path.size ≤ 1000000 ∧ I64 x.node ∧ I64 x.depth) :
    Calls Tryz.prog 27 #[.agg #[.slice A t.nodes.length c, .int .i64 t.now], .slice S l.length cs] w fun e w' => ∃ g, (e = .returned (.slice (some ⟨g, 0, none⟩) l.length l.length) ∧ w.heap.size ≤ g ∧ IntRow w' g (szOut t l)) ∧ Below w.heap.size w w' := by
  have HF := Lib.hid hF
  have HA := Lib.hid hA
  have HS := Lib.hid hS
  have HX := Lib.hid hx
  have hmk := make_ints l.length (by omega)
  have hmk1 : ∀ w : World, (Instr.makeSlice 60 (.int .i64 ((l.length : Int) + 1)) (.int .i64 ((l.length : Int) + 1))).run Tryz.prog w = .ok (.slice (some ⟨w.heap.size, 0, none⟩) (l.length + 1) (l.length + 1)) (w.alloc (.cells (Array.replicate (l.length + 1) (.int .i64 0)) 3)) := fun w => by
    have := make_ints (l.length + 1) (by omega) w
    push_cast at this
    exact this
  have hm1 := make_map 133
  have hm2 := make_map 134
  clear hF hA hS hx
  go_enter Tryz.func27, Tryz.ntmps27
  go_upto_region 2 with fail
  obtain ⟨wa, hwa⟩ : ∃ y, y = (w.alloc (.cells #[.slice A t.nodes.length c, .int .i64 t.now] 24)).alloc (.cells (Array.replicate l.length (.int .i64 0)) 3) := ⟨_, rfl⟩
  have hba : Below w.heap.size w wa := by rw [hwa]; exact below_alloc (below_alloc (Below.refl _ _) _) _
  have t0 : wa.cell? ⟨w.heap.size, 0, none⟩ = some (.slice A t.nodes.length c) := by rw [hwa]; simp [go_sem]
  have t1 : wa.cell? ⟨w.heap.size, 1, none⟩ = some (.int .i64 t.now) := by rw [hwa]; simp [go_sem]
  have hra : IntRow wa (w.heap.size + 1) (List.replicate l.length 0) := by rw [hwa]; exact intRow_made _ _ _ (by simp)
  rw [← hwa]
  clear hwa
  obtain ⟨gO, hgO⟩ : ∃ y, y = w.heap.size + 1 := ⟨_, rfl⟩
  rw [← hgO] at hra
  rw [← hgO]
  have HG := Lib.hid hgO
  clear hgO
  cases hok : treeOK t with
  | false =>
    have HO := Lib.hid hok
    clear hok
    go_wp2_with (go_at_call 33; refine (check_calls t HF.out _ _ _ (HA.out.keep hba)).mono ?_; rintro _ w1 ⟨rfl, hb1⟩; rw [HO.out]; have hb2 := below_step hba hb1; have hr2 := hra.keep hb1; clear hb1)
    go_ret
    refine ⟨gO, ⟨rfl, by have := HG.out; omega, ?_⟩, hb2⟩
    unfold szOut
    rw [HO.out]
    exact hr2
  | true =>
    have HO := Lib.hid hok
    have HOK := Lib.hid (TreeOK.of hok)
    clear hok
    go_upto_region 6 with (go_at_call 33; refine (check_calls t HF.out _ _ _ (HA.out.keep hba)).mono ?_; rintro _ w1 ⟨rfl, hb1⟩; rw [HO.out]; have hb2 := below_step hba hb1; have hr2 := hra.keep hb1; have k0 := cell_keep hb1 t0; have k1 := cell_keep hb1 t1; clear hb1)
    clear hra t0 t1 hba
    obtain ⟨wM, hwM⟩ : ∃ y, y = ((w1.alloc (.cells (Array.replicate (l.length + 1) (.int .i64 0)) 3)).alloc (.map #[] 0)).alloc (.map #[] 0) := ⟨_, rfl⟩
    rw [← hwM]
    obtain ⟨gS, hgS⟩ : ∃ y, y = w1.heap.size := ⟨_, rfl⟩
    have hZ0 : Z w A t.nodes.length c t.now gO gS (gS + 1) (gS + 1 + 1) (List.replicate l.length 0) (List.replicate (l.length + 1) 0) (fun _ => 0) (fun _ => none) wM := by
      have b1 : Below w1.heap.size w1 (w1.alloc (.cells (Array.replicate (l.length + 1) (.int .i64 0)) 3)) := below_alloc (Below.refl _ _) _
      have hrs := intRow_made w1 (l.length + 1) gS hgS
      have hs2 : (w1.alloc (.cells (Array.replicate (l.length + 1) (.int .i64 0)) 3)).heap.size = gS + 1 := by rw [World.size_alloc, hgS]
      obtain ⟨w2, hw2⟩ : ∃ y, y = w1.alloc (.cells (Array.replicate (l.length + 1) (.int .i64 0)) 3) := ⟨_, rfl⟩
      rw [← hw2] at hwM b1 hrs hs2
      have hM1 := MapAt.made Tryz.prog 3 w2
      have b2 : Below w2.heap.size w2 (w2.alloc (.map #[] 0)) := below_alloc (Below.refl _ _) _
      have hs3 : (w2.alloc (.map #[] 0)).heap.size = gS + 1 + 1 := by rw [World.size_alloc, hs2]
      rw [hs2] at hM1
      clear hw2
      obtain ⟨w3, hw3⟩ : ∃ y, y = w2.alloc (.map #[] 0) := ⟨_, rfl⟩
      rw [← hw3] at hwM b2 hM1 hs3
      clear hw3
      have hM2 := MapAt.made Tryz.prog 136 w3
      have b3 : Below w3.heap.size w3 (w3.alloc (.map #[] 0)) := below_alloc (Below.refl _ _) _
      rw [hs3] at hM2
      rw [← hwM] at hM2 b3
      have hlt := HG.out
      have hlo := hr2.lt
      exact ⟨cell_keep b3 (cell_keep b2 (cell_keep b1 k0)), cell_keep b3 (cell_keep b2 (cell_keep b1 k1)), ((hr2.keep b1).keep b2).keep b3, (hrs.keep b2).keep b3, by rw [seenF_zero]; exact hM1.keep b3, by rw [opnF_none]; exact hM2, below_step (below_step (below_step hb2 b1) b2) b3, by omega, by omega, by omega, by omega⟩
    clear hwM hr2 k0 k1 hb2 hmk hmk1 hm1 hm2
    rw [← hgS]
    clear hgS HG
    go_wp2
    go_loopg [29] l.length (fun g s29 wr => ∃ i : Nat, i + g = l.length ∧ s29 = .int .i64 i ∧ Z w A t.nodes.length c t.now gO gS (gS + 1) (gS + 1 + 1) ((szRun t (l.take i)).out ++ List.replicate (l.length - i) 0) ((szRun t (l.take i)).sums ++ List.replicate (l.length - i) 0) (szRun t (l.take i)).seen (szRun t (l.take i)).opn wr)
    case atStart =>
      refine ⟨0, by omega, rfl, ?_⟩
      simpa [szRun, szInit, List.replicate_succ] using hZ0
    case round =>
      clear hZ0
      obtain ⟨i, hg, rfl, hZ⟩ := hrel
      cases gk with
      | zero =>
        obtain rfl : i = l.length := by omega
        go_wp2
        go_ret
        have hne := hZ.ne
        refine ⟨gO, ⟨rfl, by omega, ?_⟩, hZ.below⟩
        unfold szOut
        rw [HO.out, if_pos rfl]
        simpa using hZ.out
      | succ gg =>
        obtain ⟨x, hxi⟩ : ∃ x, l[i]? = some x := ⟨l[i]'(by omega), by simp⟩
        obtain ⟨bS, oS, rfl, s0, s1, s2, s3⟩ := HS.out i x hxi
        replace s0 := cell_keep hZ.below s0
        replace s1 := cell_keep hZ.below s1
        replace s2 := cell_keep hZ.below s2
        replace s3 := cell_keep hZ.below s3
        have HXI := Lib.hid hxi
        have hbx := HX.out x (List.mem_of_getElem? hxi)
        have HZ := Lib.hid hZ
        clear hxi hZ
        have hd : decide (i < l.length) = true := decide_eq_true (by omega)
        go_upto_region 9 with fail
        have hlen := szRun_len t (l.take i)
        have hfine := szFine_run (M := 1000000) (by omega) (sizeN_le HOK.out) (l.take i)
        have hnext : szRun t (l.take (i + 1)) = szStep t (szRun t (l.take i)) x := by rw [List.take_add_one, HXI.out]; exact szRun_snoc _ _ _
        have hil : (l.take i).length = i := by rw [List.length_take]; omega
        rw [hil] at hlen
        obtain ⟨st, hst⟩ : ∃ y, y = szRun t (l.take i) := ⟨_, rfl⟩
        have hZ := HZ.out
        rw [← hst] at hlen hfine hnext hZ
        have HNX := Lib.hid hnext
        have HFI := Lib.hid hfine
        have HLN := Lib.hid hlen
        clear hst HZ hnext hil
        rw [show l.length - i = gg + 1 by omega] at hZ
        obtain ⟨wq, hwq⟩ : ∃ y, y = wr.alloc (.cells #[.string x.path, .int .i64 x.node, .int .i64 x.depth, .bool x.after] 111) := ⟨_, rfl⟩
        obtain ⟨bx, hbx2⟩ : ∃ y, y = wr.heap.size := ⟨_, rfl⟩
        have hX : Bx bx x wq := by
          have hr := heap_alloc_new wr (.cells #[.string x.path, .int .i64 x.node, .int .i64 x.depth, .bool x.after] 111)
          rw [← hwq, ← hbx2] at hr
          exact ⟨(cell_of_row _ _ _ _ _ _ hr).trans rfl, (cell_of_row _ _ _ _ _ _ hr).trans rfl, (cell_of_row _ _ _ _ _ _ hr).trans rfl, (cell_of_row _ _ _ _ _ _ hr).trans rfl⟩
        have hbn : gS + 1 + 1 < bx := by rw [hbx2]; exact hZ.opn.lt
        have hBx : ¬ SzW gO gS (gS + 1) (gS + 1 + 1) bx := by have := hZ.ne; unfold SzW; omega
        replace hZ := hZ.keep (w' := wq) (by rw [hwq]; exact below_alloc (Below.refl _ _) _)
        rw [← hwq, ← hbx2]
        have hBxl : bx < wq.heap.size := by rw [hwq, hbx2]; simp
        clear hwq hbx2 s0 s1 s2 s3
        have hcur := hfine.cur i (by omega)
        have c1 := hZ.sums.cell i (by simp; omega)
        have c2 := hZ.sums.cell (i + 1) (by simp; omega)
        have c3 := hZ.sums.free (i + 1)
        rw [getD_app (by omega)] at c1
        obtain ⟨cur, hcu⟩ : ∃ y, y = st.sums.getD i 0 := ⟨_, rfl⟩
        rw [← hcu] at c1 hcur
        have HCU := Lib.hid hcu
        have HZ := Lib.hid hZ
        clear hcu hZ hfine hlen
        go_upto_region 10 with fail
        obtain ⟨wb, hwb⟩ : ∃ y, y = wq.setCell ⟨gS, i + 1, none⟩ (.int .i64 cur) := ⟨_, rfl⟩
        have hZ := HZ.out.setSums (i + 1) cur
        rw [set_app cur HLN.out.2, show st.out ++ List.replicate (gg + 1) 0 = st.out ++ [0] ++ List.replicate gg 0 by rw [List.replicate_succ, List.append_assoc]; rfl, ← hwb] at hZ
        replace hX : Bx bx x wb := hX.turned (S := fun k => k = gS) (by rw [hwb]; exact turned_set wq gS (i + 1) _ rfl) (by omega)
        replace hBxl : bx < wb.heap.size := by rw [hwb]; simpa using hBxl
        rw [← hwb]
        clear hwb c1 c2 c3 HZ
        obtain ⟨x0, x1, x2, x3⟩ := hX
        have t0 := hZ.t0
        by_cases hr : x.node < 1 ∨ (t.nodes.length : Int) ≤ x.node
        · have hidle : szStep t st x = { st with sums := st.sums ++ [cur], out := st.out ++ [0] } := by
            unfold szStep
            dsimp only
            rw [if_pos (by omega), HLN.out.1, ← HCU.out]
          have HID := Lib.hid hidle
          have HZ := Lib.hid hZ
          clear hidle hZ
          by_cases hr1 : x.node < 1
          · have hr1d : decide (x.node < 1) = true := decide_eq_true hr1
            go_wp2
            go_roundg gg
            case measure => omega
            case rel =>
              refine ⟨i + 1, by omega, by go_num, ?_⟩
              rw [HNX.out, HID.out, show l.length - (i + 1) = gg by omega]
              exact HZ.out
          · have hr1d : decide (x.node < 1) = false := decide_eq_false hr1
            have hr2d : decide (x.node ≥ (t.nodes.length : Int)) = true := decide_eq_true (by omega)
            go_wp2
            go_roundg gg
            case measure => omega
            case rel =>
              refine ⟨i + 1, by omega, by go_num, ?_⟩
              rw [HNX.out, HID.out, show l.length - (i + 1) = gg by omega]
              exact HZ.out
        · obtain ⟨y, hy⟩ : ∃ y, t.nodes[x.node.toNat]? = some y := ⟨t.nodes[x.node.toNat]'(by omega), by simp⟩
          obtain ⟨b, o, D, cd, L, cl, rfl, -, -, -, -, n0, -⟩ := HA.out.get hy
          replace n0 := cell_keep hZ.below n0
          have hat := at_eq hy
          have hr1d : decide (x.node < 1) = false := decide_eq_false (by omega)
          have hr2d : decide (x.node ≥ (t.nodes.length : Int)) = false := decide_eq_false (by omega)
          have HAT := Lib.hid hat
          have HY := Lib.hid hy
          have hn0 : 0 ≤ x.node := by omega
          have hn1 : x.node < (t.nodes.length : Int) := by omega
          clear hat hy
          by_cases hk : y.kind = 0
          · have hidle : szStep t st x = { st with sums := st.sums ++ [cur], out := st.out ++ [0] } := by
              unfold szStep
              dsimp only
              rw [if_pos (by rw [HAT.out]; omega), HLN.out.1, ← HCU.out]
            have HID := Lib.hid hidle
            have HZ := Lib.hid hZ
            have hkd : decide (y.kind = 0) = true := decide_eq_true hk
            have hkb : (y.kind == 0) = true := beq_iff_eq.2 hk
            clear hidle hZ hk
            go_wp2
            go_roundg gg
            case measure => omega
            case rel =>
              refine ⟨i + 1, by omega, by go_num, ?_⟩
              rw [HNX.out, HID.out, show l.length - (i + 1) = gg by omega]
              exact HZ.out
          · have hkd : decide (y.kind = 0) = false := decide_eq_false hk
            have hkb : (y.kind == 0) = false := beq_eq_false_iff_ne.2 hk
            have HK := Lib.hid hk
            clear hk
            obtain ⟨k1, hk1⟩ := int_key x.node hbx.2.1
            have hlk := hZ.seen.lookup int_law Tryz.underlying133 hk1 (run_zero_int _) false
            rw [seenF_getD] at hlk
            obtain ⟨wc, hupd, hmap, hT⟩ := hZ.seen.update int_law Tryz.underlying133 hk1 (.int .i64 (st.seen x.node + 1))
            have hse := HFI.out.seen x.node
            have hln := HLN.out.1
            rw [seenF_upd _ _ _ (by omega)] at hmap
            simp only [Bool.false_eq_true, if_false] at hlk
            have HZ := Lib.hid (hZ.updSeen hT hmap)
            have y0 := turned_cell hT (by omega) x0
            have y1 := turned_cell hT (by omega) x1
            have y2 := turned_cell hT (by omega) x2
            have y3 := turned_cell hT (by omega) x3
            clear hZ hmap hT
            go_upto_region 13 with fail
            have hwd0 := heap_alloc_new wc (.cells #[.string x.path, .int .i64 x.node, .int .i64 x.depth] 136)
            have hbd : Below wc.heap.size wc (wc.alloc (.cells #[.string x.path, .int .i64 x.node, .int .i64 x.depth] 136)) := below_alloc (Below.refl _ _) _
            obtain ⟨wd, hwd⟩ : ∃ y, y = wc.alloc (.cells #[.string x.path, .int .i64 x.node, .int .i64 x.depth] 136) := ⟨_, rfl⟩
            obtain ⟨bp, hbp⟩ : ∃ y, y = wc.heap.size := ⟨_, rfl⟩
            have hbp1 : bx < bp := by rw [hbp]; exact World.block_lt_of_cell? _ _ y0
            rw [← hwd] at hbd
            rw [← hwd, ← hbp] at hwd0
            rw [← hwd, ← hbp]
            have hZ := HZ.out.keep hbd
            have x0 := cell_keep hbd y0
            have x1 := cell_keep hbd y1
            have x2 := cell_keep hbd y2
            have x3 := cell_keep hbd y3
            have p0 : wd.cell? ⟨bp, 0, none⟩ = some (.string x.path) := (cell_of_row _ _ _ _ _ _ hwd0).trans rfl
            have p1 : wd.cell? ⟨bp, 1, none⟩ = some (.int .i64 x.node) := (cell_of_row _ _ _ _ _ _ hwd0).trans rfl
            have p2 : wd.cell? ⟨bp, 2, none⟩ = some (.int .i64 x.depth) := (cell_of_row _ _ _ _ _ _ hwd0).trans rfl
            have hbpl : bp < wd.heap.size := (Array.getElem?_eq_some_iff.1 hwd0).1
            have t0 := hZ.t0
            have t1 := hZ.t1
            obtain ⟨b', o', D', cd', L', cl', hA', -, -, -, -, n0, -⟩ := HA.out.get HY.out
            cases hA'
            replace n0 := cell_keep hZ.below n0
            obtain ⟨k2, hk2⟩ := place_key' x hbx.1 hbx.2.1 hbx.2.2
            have hlk2 := hZ.opn.lookup place_law Tryz.underlying134 hk2 (run_zero_int _) true
            rw [opnF_at, if_pos rfl] at hlk2
            obtain ⟨q, okb, hq, hqe, hqn⟩ : ∃ (q : Int) (okb : Bool), (Value.tuple #[((st.opn (x.path, x.node, x.depth)).map fun j => Value.int .i64 (j : Nat)).getD (.int .i64 0), .bool ((st.opn (x.path, x.node, x.depth)).map fun j => Value.int .i64 (j : Nat)).isSome]) = .tuple #[.int .i64 q, .bool okb] ∧ (∀ j, st.opn (x.path, x.node, x.depth) = some j → q = j ∧ okb = true) ∧ (st.opn (x.path, x.node, x.depth) = none → okb = false) := by
              cases st.opn (x.path, x.node, x.depth) with
              | none => exact ⟨0, false, rfl, by simp, by simp⟩
              | some j => exact ⟨j, true, rfl, by simp, by simp⟩
            rw [hq] at hlk2
            have hlk3 := hZ.seen.lookup int_law Tryz.underlying133 hk1 (run_zero_int _) false
            rw [seenF_getD, if_pos rfl] at hlk3
            simp only [Bool.false_eq_true, if_false] at hlk3
            have HQ := Lib.hid (And.intro hqe hqn)
            clear HZ hwd hbp hwd0 hbd hq hqe hqn hupd hlk y0 y1 y2 y3
            unfold placeV at hlk2
            dsimp only at hlk2
            have hne := hZ.ne
            by_cases hd2 : y.kind = 2
            · have hkd2 : decide (y.kind = 2) = true := decide_eq_true hd2
              have hkb2 : (y.kind != 2) = false := by rw [hd2]; rfl
              cases haf : x.after with
              | false =>
                obtain ⟨we, hupd, hmap, hT⟩ := hZ.opn.update place_law Tryz.underlying134 hk2 (.int .i64 (i : Nat))
                rw [show some (Value.int .i64 (i : Nat)) = (some i).map fun j => Value.int .i64 (j : Nat) from rfl, opnF_upd] at hmap
                have HZ := Lib.hid (hZ.updOpn hT hmap)
                have hidle : szStep t st x = { seen := (fun k => if k = x.node then st.seen x.node + 1 else st.seen k), opn := (fun k => if k = (x.path, x.node, x.depth) then some i else st.opn k), sums := st.sums ++ [cur], out := st.out ++ [0] } := by
                  unfold szStep
                  dsimp only
                  rw [if_neg (by rw [HAT.out]; have := HK.out; omega), if_neg (by rw [HAT.out, hd2]; simp), if_pos haf, HLN.out.1, ← HCU.out]
                have HID := Lib.hid hidle
                unfold placeV at hupd
                dsimp only at hupd
                rw [haf] at x3
                clear hidle hZ hd2 hmap hT haf
                go_wp2
                go_roundg gg
                case measure => omega
                case rel =>
                  refine ⟨i + 1, by omega, by go_num, ?_⟩
                  rw [HNX.out, HID.out, show l.length - (i + 1) = gg by omega]
                  exact HZ.out
              | true =>
                rw [haf] at x3
                cases hop : st.opn (x.path, x.node, x.depth) with
                | none =>
                  have hokb := HQ.out.2 hop
                  subst hokb
                  have hidle : szStep t st x = { st with seen := (fun k => if k = x.node then st.seen x.node + 1 else st.seen k), sums := st.sums ++ [cur], out := st.out ++ [0] } := by
                    unfold szStep
                    dsimp only
                    rw [if_neg (by rw [HAT.out]; have := HK.out; omega), if_neg (by rw [HAT.out, hd2]; simp), if_neg (by rw [haf]; simp), hop, HLN.out.1, ← HCU.out]
                  have HID := Lib.hid hidle
                  have HZ := Lib.hid hZ
                  clear hidle hZ hd2 hop haf
                  go_wp2
                  go_roundg gg
                  case measure => omega
                  case rel =>
                    refine ⟨i + 1, by omega, by go_num, ?_⟩
                    rw [HNX.out, HID.out, show l.length - (i + 1) = gg by omega]
                    exact HZ.out
                | some j =>
                  have hji := HFI.out.opn _ _ hop
                  obtain ⟨rfl, rfl⟩ := HQ.out.1 _ hop
                  have hidle : szStep t st x = { seen := (fun k => if k = x.node then st.seen x.node + 1 else st.seen k), opn := (fun k => if k = (x.path, x.node, x.depth) then none else st.opn k), sums := st.sums ++ [cur], out := st.out ++ [cur - st.sums.getD j 0] } := by
                    unfold szStep
                    dsimp only
                    rw [if_neg (by rw [HAT.out]; have := HK.out; omega), if_neg (by rw [HAT.out, hd2]; simp), if_neg (by rw [haf]; simp), hop, HLN.out.1, ← HCU.out]
                  have HID := Lib.hid hidle
                  have hl2 := HLN.out.2
                  have hcj := HFI.out.cur j (by omega)
                  have g1 := hZ.sums.cell i (by simp; omega)
                  have g2 := hZ.sums.cell j (by simp; omega)
                  have g3 := hZ.out.cell i (by simp; omega)
                  have g4 := hZ.out.free i
                  rw [List.append_assoc, getD_app (by omega), ← HCU.out] at g1
                  rw [List.append_assoc, getD_app (by omega)] at g2
                  obtain ⟨cj, hcje⟩ : ∃ y, y = st.sums.getD j 0 := ⟨_, rfl⟩
                  rw [← hcje] at hcj g2 hidle
                  have HID := Lib.hid hidle
                  have HZ := Lib.hid hZ
                  have hi1 : i < l.length := by omega
                  have hi3 : (i : Int) < (l.length : Int) + 1 := by omega
                  have hj3 : (j : Int) < (l.length : Int) + 1 := by omega
                  clear hidle hZ hd2 hop haf hcje
                  go_upto_region 21 with fail
                  go_still_tail 12, (by kernel_rfl)
                  change wpList _ _ _ _ _ wd.drew
                  go_upto_region 22 with fail
                  have hZ := HZ.out.setOut i (cur - cj)
                  rw [set_app2 _ _ _ hln] at hZ
                  replace hZ := hZ.keep (Below.refl _ _).drew
                  have hP : Px bp x (wd.setCell ⟨gO, i, none⟩ (.int .i64 (cur - cj))).drew := Px.keep (Px.turned ⟨p0, p1, p2⟩ (turned_set (S := fun k => k = gO) wd gO i _ rfl) (by omega)) (Below.refl _ _).drew
                  obtain ⟨we, hwe⟩ : ∃ y, y = (wd.setCell ⟨gO, i, none⟩ (.int .i64 (cur - cj))).drew := ⟨_, rfl⟩
                  rw [← hwe] at hZ hP
                  rw [← hwe]
                  obtain ⟨q0, q1, q2⟩ := hP
                  obtain ⟨wf, hdel, hmap, hT⟩ := hZ.opn.delete place_law Tryz.underlying134 hk2 136 0
                  rw [show (none : Option Value) = (none : Option Nat).map fun j => Value.int .i64 (j : Nat) from rfl, opnF_upd] at hmap
                  have HZ2 := Lib.hid (hZ.updOpn hT hmap)
                  unfold placeV at hdel
                  dsimp only at hdel
                  clear hZ hwe hmap hT
                  go_wp2
                  go_roundg gg
                  case measure => omega
                  case rel =>
                    refine ⟨i + 1, by omega, by go_num, ?_⟩
                    rw [HNX.out, HID.out, show l.length - (i + 1) = gg by omega]
                    exact HZ2.out
            · have hkd2 : decide (y.kind = 2) = false := decide_eq_false hd2
              have hkb2 : (y.kind != 2) = true := bne_iff_ne.2 hd2
              by_cases hc1 : st.seen x.node + 1 = 1
              · have hcd : decide (st.seen x.node + 1 = 1) = true := decide_eq_true hc1
                have hcb : (st.seen x.node + 1 == 1) = true := beq_iff_eq.2 hc1
                have hidle : szStep t st x = { st with seen := (fun k => if k = x.node then st.seen x.node + 1 else st.seen k), sums := st.sums ++ [cur + sizeN y], out := st.out ++ [sizeN y] } := by
                  unfold szStep
                  dsimp only
                  rw [if_neg (by rw [HAT.out]; have := HK.out; omega), if_pos (by rw [HAT.out]; exact hd2), if_pos hc1, HLN.out.1, ← HCU.out, HAT.out]
                have hsz := sizeN_le HOK.out x.node
                rw [HAT.out] at hsz
                have hszy : sizeN y = ((y.data.length + y.target.size : Nat) : Int) + (y.list.length : Nat) := rfl
                obtain ⟨sy, hsy⟩ : ∃ v, v = sizeN y := ⟨_, rfl⟩
                rw [← hsy] at hidle hsz hszy
                have HSY := Lib.hid hszy
                have HID := Lib.hid hidle
                have HZ := Lib.hid hZ
                have hi1 : i < l.length := by omega
                have hi3 : (i : Int) < (l.length : Int) + 1 := by omega
                have hi4 : (i : Int) + 1 < (l.length : Int) + 1 := by omega
                have hl2 := HLN.out.2
                have hfd : ∀ w : World, (Instr.field 88 (.agg #[.int .i64 x.node, .int .u8 y.kind, .int .i64 y.mode, .int .i64 y.user, .int .i64 y.group, .int .i64 y.links, .int .i64 sy, .int .i64 y.time]) 6).run Tryz.prog w = .ok (.int .i64 sy) w := fun _ => by kernel_rfl
                clear hidle hZ hd2 hc1 hsy hszy
                go_upto_region 16 with (go_at_call 109; refine (of_calls t HF.out x.node hn0 hn1 _ c _ (HA.out.keep HZ.out.below)).mono ?_; rintro _ we ⟨rfl, hbe⟩; rw [HAT.out, statV, ← HSY.out]; have hZe := HZ.out.keep hbe; have g3 := hZe.out.cell i (by simp; omega); have g4 := hZe.out.free i; have HZE := Lib.hid hZe; clear hZe hbe)
                have hZ := HZE.out.setOut i sy
                rw [set_app2 _ _ _ hln] at hZ
                obtain ⟨wf, hwf⟩ : ∃ y, y = we.setCell ⟨gO, i, none⟩ (.int .i64 sy) := ⟨_, rfl⟩
                rw [← hwf] at hZ
                rw [← hwf]
                have f1 := hZ.sums.cell (i + 1) (by simp; omega)
                have f2 := hZ.sums.free (i + 1)
                have f3 := hZ.out.cell i (by simp; omega)
                have e1 : (st.sums ++ [cur] ++ List.replicate gg 0).getD (i + 1) 0 = cur := by
                  rw [List.append_assoc, List.getD_eq_getElem?_getD, List.getElem?_append_right (by omega), hl2, Nat.sub_self]; rfl
                have e2 : (st.out ++ [sy] ++ List.replicate gg 0).getD i 0 = sy := by
                  rw [List.append_assoc, List.getD_eq_getElem?_getD, List.getElem?_append_right (by omega), hln, Nat.sub_self]; rfl
                rw [e1] at f1
                rw [e2] at f3
                have hw1 : IntKind.i64.wrap ((i : Int) + 1) = (i : Int) + 1 := IntWalk.i64_in _ (by omega)
                have hw2 : IntKind.i64.wrap (cur + sy) = cur + sy := IntWalk.i64_in _ (by omega)
                have hi5 : (0 : Int) ≤ (i : Int) + 1 := by omega
                have hi6 : ((i : Int) + 1).toNat = i + 1 := by omega
                have HZ := Lib.hid hZ
                clear hZ hwf e1 e2
                go_still_tail 11, (by kernel_rfl)
                change wpList _ _ _ _ _ wf.drew
                go_wp2
                go_roundg gg
                case measure => omega
                case rel =>
                  refine ⟨i + 1, by omega, by go_num, ?_⟩
                  rw [HNX.out, HID.out, show l.length - (i + 1) = gg by omega]
                  have h3 := HZ.out.setSums (i + 1) (cur + sy)
                  rw [set_app2 _ _ _ hl2] at h3
                  exact h3.keep (Below.refl _ _).drew
              · have hcd : decide (st.seen x.node + 1 = 1) = false := decide_eq_false hc1
                have hcb : (st.seen x.node + 1 == 1) = false := beq_eq_false_iff_ne.2 hc1
                have hidle : szStep t st x = { st with seen := (fun k => if k = x.node then st.seen x.node + 1 else st.seen k), sums := st.sums ++ [cur], out := st.out ++ [0] } := by
                  unfold szStep
                  dsimp only
                  rw [if_neg (by rw [HAT.out]; have := HK.out; omega), if_pos (by rw [HAT.out]; exact hd2), if_neg hc1, HLN.out.1, ← HCU.out]
                have HID := Lib.hid hidle
                have HZ := Lib.hid hZ
                clear hidle hZ hd2 hc1
                go_wp2
                go_roundg gg
                case measure => omega
                case rel =>
                  refine ⟨i + 1, by omega, by go_num, ?_⟩
                  rw [HNX.out, HID.out, show l.length - (i + 1) = gg by omega]
                  exact HZ.out
end Go.Proofs.YtbfcfjgcmideeaaGreatDoor
