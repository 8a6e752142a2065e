/- The reference of layer 12: dir, Depth, In, Find, Of, Stat, Sizes. -/
import Derived.Test.YtfoocjdnolplpaaRefCheck
import Derived.Test.YtfoocjdnolplpaaSizes
namespace Go.Proofs.Ytfoocjdnolplpaa
open Go.RowKit
attribute [local go_sem] Later.cell_eq
set_option maxHeartbeats 2000000 in
set_option maxRecDepth 100000 in
theorem refIsDir_calls (t : TTree) (hF : t.Fits) (n : Int) (A : Option Addr) (c : Nat) (w : World) (hA : NodesAt w A t.nodes) :
    Calls Try.prog 33 #[.agg #[.slice A t.nodes.length c, .int .i64 t.now], .int .i64 n] w fun e w' => e = .returned (.bool (isDirB t n)) ∧ Below w.heap.size w w' := by
  have hn47 := hF.nodes
  have HF := Lib.hid hF
  have HA := Lib.hid hA
  clear hF
  cases hok : treeOK t with
  | false =>
    have HR : Hid (isDirB t n = false) := by unfold isDirB; rw [hok]; rfl
    have HO := Lib.hid hok
    clear hok hA
    go_enter Try.func33, Try.ntmps33
    go_wp2_with (go_at_call 26; refine (refCheck_calls t HF.out _ _ _ (HA.out.keep ((Below.refl _ _).alloc (Nat.le_refl _) _))).mono ?_; rintro _ w1 ⟨rfl, hb1⟩; rw [HO.out])
    go_ret
    exact ⟨ret_bool HR.out.symm, below_step (below_alloc (Below.refl _ _) _) hb1⟩
  | true =>
    have HO := Lib.hid hok
    by_cases h1 : 1 ≤ n
    · by_cases h2 : n < (t.nodes.length : Int)
      · obtain ⟨x, hx⟩ : ∃ x, t.nodes[n.toNat]? = some x := ⟨t.nodes[n.toNat]'(by omega), by simp⟩
        have hat : t.at n = x := by simp [TTree.at, hx]
        have HR : Hid (isDirB t n = (x.kind == 2)) := by unfold isDirB; rw [hok, hat, decide_eq_true h1, decide_eq_true h2]; rfl
        obtain ⟨b, o, Dx, cdx, Lx, clx, rfl, -, -, -, -, x0, -, -, -, -, -, -, -, -, -⟩ := hA.get hx
        have h0 : 0 ≤ n := by omega
        clear hA hok hx hat
        go_enter Try.func33, Try.ntmps33
        go_wp2_with (go_at_call 26; refine (refCheck_calls t HF.out _ _ _ (HA.out.keep ((Below.refl _ _).alloc (Nat.le_refl _) _))).mono ?_; rintro _ w1 ⟨rfl, hb1⟩; rw [HO.out]; have k0 := cell_keep hb1 (p := ⟨w.heap.size, 0, none⟩) (v := .slice (some ⟨b, o, none⟩) t.nodes.length c) (by rw [World.cell?_alloc_new]; rfl); have hb2 := below_step (below_alloc (Below.refl _ _) _) hb1; clear hb1; replace x0 := cell_keep hb2 x0)
        all_goals go_ret
        all_goals exact ⟨ret_bool HR.out.symm, hb2⟩
      · have HR := Lib.hid (show isDirB t n = false by unfold isDirB; rw [decide_eq_false h2]; simp)
        clear hA hok
        go_enter Try.func33, Try.ntmps33
        go_wp2_with (go_at_call 26; refine (refCheck_calls t HF.out _ _ _ (HA.out.keep ((Below.refl _ _).alloc (Nat.le_refl _) _))).mono ?_; rintro _ w1 ⟨rfl, hb1⟩; rw [HO.out]; have k0 := cell_keep hb1 (p := ⟨w.heap.size, 0, none⟩) (v := .slice A t.nodes.length c) (by rw [World.cell?_alloc_new]; rfl); have hb2 := below_step (below_alloc (Below.refl _ _) _) hb1; clear hb1)
        go_ret
        exact ⟨ret_bool HR.out.symm, hb2⟩
    · have HR := Lib.hid (show isDirB t n = false by unfold isDirB; rw [decide_eq_false h1]; simp)
      clear hA hok
      go_enter Try.func33, Try.ntmps33
      go_wp2_with (go_at_call 26; refine (refCheck_calls t HF.out _ _ _ (HA.out.keep ((Below.refl _ _).alloc (Nat.le_refl _) _))).mono ?_; rintro _ w1 ⟨rfl, hb1⟩; rw [HO.out]; have k0 := cell_keep hb1 (p := ⟨w.heap.size, 0, none⟩) (v := .slice A t.nodes.length c) (by rw [World.cell?_alloc_new]; rfl); have hb2 := below_step (below_alloc (Below.refl _ _) _) hb1; clear hb1)
      go_ret
      exact ⟨ret_bool HR.out.symm, hb2⟩
set_option maxHeartbeats 2000000 in
set_option maxRecDepth 100000 in
theorem refDepth_calls (t : TTree) (hF : t.Fits) (n : Int) (A : Option Addr) (c : Nat) (w : World) (hA : NodesAt w A t.nodes) :
    Calls Try.prog 18 #[.agg #[.slice A t.nodes.length c, .int .i64 t.now], .int .i64 n] w fun e w' => e = .returned (.int .i64 (tDepth t n)) ∧ Below w.heap.size w w' := by
  have HF := Lib.hid hF
  have HA := Lib.hid hA
  clear hF hA
  cases h : isDirB t n with
  | false =>
    have HT : Hid (tDepth t n = 0) := by unfold tDepth; rw [if_neg (by rw [h]; decide)]; rfl
    have HO := Lib.hid h
    clear h
    go_enter Try.func18, Try.ntmps18
    go_wp2_with (go_at_call 33; refine (refIsDir_calls t HF.out _ _ _ _ (HA.out.keep ((Below.refl _ _).alloc (Nat.le_refl _) _))).mono ?_; rintro _ w1 ⟨rfl, hb1⟩; rw [HO.out])
    go_ret
    exact ⟨ret_int HT.out.symm, below_step (below_alloc (Below.refl _ _) _) hb1⟩
  | true =>
    have HT : Hid (tDepth t n = (deepN t 32 n : Nat)) := by unfold tDepth; rw [if_pos h]; rfl
    have hd := (isDirB_iff t n).mp h
    have HU := Lib.hid (hd.1.up hd.2.1 hd.2.2.1 hd.2.2.2)
    have HO := Lib.hid h
    clear h hd
    go_enter Try.func18, Try.ntmps18
    go_wp2_with (first
      | (go_at_call 33; refine (refIsDir_calls t HF.out _ _ _ _ (HA.out.keep ((Below.refl _ _).alloc (Nat.le_refl _) _))).mono ?_; rintro _ w1 ⟨rfl, hb1⟩; rw [HO.out]; have k0 := cell_keep hb1 (p := ⟨w.heap.size, 0, none⟩) (v := .slice A t.nodes.length c) (by rw [World.cell?_alloc_new]; rfl); have k1 := cell_keep hb1 (p := ⟨w.heap.size, 1, none⟩) (v := .int .i64 t.now) (by rw [World.cell?_alloc_new]; rfl); have hb2 := below_step (below_alloc (Below.refl _ _) _) hb1; clear hb1)
      | (go_at_call 37; refine (refUp_calls t HF.out n _ _ _ (HA.out.keep (by assumption))).mono ?_; rintro _ w2 ⟨rfl, hb3⟩))
    go_ret
    exact ⟨ret_int (by rw [HT.out]; unfold refUp; rw [upZ_deep t 32 0 n (by omega) HU.out]; omega), below_step (by assumption) hb3⟩
theorem inList_cons (e : TEnt) (l : List TEnt) (s : ByteArray) : inList (e :: l) s = if e.name = s then e.node else inList l s := by
  unfold inList
  rw [List.find?_cons]
  by_cases h : e.name = s
  · rw [if_pos h, (beq_name e.name s).mpr h]
  · rw [if_neg h, show sameB e.name s = false by rw [Bool.eq_false_iff]; exact fun h' => h ((beq_name _ _).mp h')]
set_option maxHeartbeats 1000000 in
set_option maxRecDepth 100000 in
theorem refIn_calls (t : TTree) (hF : t.Fits) (d : Int) (s : ByteArray) (A : Option Addr) (c : Nat) (w : World) (hA : NodesAt w A t.nodes) :
    Calls Try.prog 35 #[.agg #[.slice A t.nodes.length c, .int .i64 t.now], .int .i64 d, .string s] w fun e w' => e = .returned (.int .i64 (tIn t d s)) ∧ Below w.heap.size w w' := by
  have hn47 := hF.nodes
  by_cases h1 : d < 1
  · have HT := Lib.hid (show tIn t d s = 0 by unfold tIn; rw [if_pos (Or.inl h1)])
    clear hF hA
    go_enter Try.func35, Try.ntmps35
    go_wp2
    go_ret
    exact ⟨ret_int HT.out.symm, (by repeat (first | exact Below.refl _ _ | assumption | refine Below.drew ?_ | refine below_drewN ?_ _ | refine below_alloc ?_ _ | refine below_set ?_ (by simp) _ | refine below_step ?_ (by assumption)))⟩
  · by_cases h2 : (t.nodes.length : Int) ≤ d
    · have HT := Lib.hid (show tIn t d s = 0 by unfold tIn; rw [if_pos (Or.inr h2)])
      clear hF hA
      go_enter Try.func35, Try.ntmps35
      go_wp2
      go_ret
      exact ⟨ret_int HT.out.symm, (by repeat (first | exact Below.refl _ _ | assumption | refine Below.drew ?_ | refine below_drewN ?_ _ | refine below_alloc ?_ _ | refine below_set ?_ (by simp) _ | refine below_step ?_ (by assumption)))⟩
    · obtain ⟨x, hx⟩ : ∃ x, t.nodes[d.toNat]? = some x := ⟨t.nodes[d.toNat]'(by omega), by simp⟩
      obtain ⟨b, o, Dx, cdx, Lx, clx, rfl, -, -, hcl, hL, -, -, -, -, -, -, -, -, x8, -⟩ := hA.get hx
      have HT := Lib.hid (show tIn t d s = inList x.list s by unfold tIn; rw [if_neg (by omega), at_eq' hx])
      have hxl := (hF.each x (List.mem_of_getElem? hx)).list
      have HL := Lib.hid hL
      have hbl := World.block_lt_of_cell? _ _ x8
      dsimp only at hbl
      have hd0 : 0 ≤ d := by omega
      have hd1 : d < (t.nodes.length : Int) := by omega
      clear hF hA hx hL
      go_enter Try.func35, Try.ntmps35
      go_wp2
      go_loopg [8] x.list.length (fun g s8 wr => ∃ i : Nat, i + g = x.list.length ∧ s8 = .int .i64 i ∧ Hid (inList (x.list.drop i) s = inList x.list s) ∧ Below w.heap.size w wr)
      case atStart => exact ⟨0, by omega, rfl, Lib.hid (by rw [List.drop_zero]), (by repeat (first | exact Below.refl _ _ | assumption | refine Below.drew ?_ | refine below_drewN ?_ _ | refine below_alloc ?_ _ | refine below_set ?_ (by simp) _ | refine below_step ?_ (by assumption)))⟩
      case round =>
        obtain ⟨i, hg, rfl, HI, hb⟩ := hrel
        cases gk with
        | zero =>
          obtain rfl : i = x.list.length := by omega
          go_wp2
          go_ret
          exact ⟨ret_int (by rw [HT.out, ← HI.out, List.drop_length]; rfl), hb⟩
        | succ g =>
          obtain ⟨e, he⟩ : ∃ e, x.list[i]? = some e := ⟨x.list[i]'(by omega), by simp⟩
          obtain ⟨b', o', rfl, e0, e1⟩ := HL.out i e he
          replace e0 := cell_keep hb e0
          replace e1 := cell_keep hb e1
          have HD := Lib.hid (show x.list.drop i = e :: x.list.drop (i + 1) by
            rw [List.drop_eq_getElem_cons (List.getElem?_eq_some_iff.1 he).1, (List.getElem?_eq_some_iff.1 he).2])
          clear he
          by_cases hn : e.name = s
          · have hn1 : (e.name.toList == s.toList) = true := by simp [hn]
            have HN := Lib.hid hn
            have HS := Lib.hid (show inList x.list s = e.node by rw [← HI.out, HD.out, inList_cons, if_pos hn])
            clear hn
            go_wp2
            go_ret
            exact ⟨ret_int (by rw [HT.out, HS.out]), hb⟩
          · have hn1 : (e.name.toList == s.toList) = false := by
              rw [beq_eq_false_iff_ne]
              intro h
              exact hn (str_ext (by rw [← ByteArray.toList_eq, ← ByteArray.toList_eq, h]))
            have HS := Lib.hid (show inList (x.list.drop (i + 1)) s = inList x.list s by rw [← HI.out, HD.out, inList_cons, if_neg hn])
            clear hn
            go_wp2
            go_roundg g
            case measure => omega
            case rel => exact ⟨i + 1, by omega, by go_num, HS, hb⟩
set_option maxHeartbeats 2000000 in
set_option maxRecDepth 100000 in
theorem refFind_calls (t : TTree) (hF : t.Fits) (d : Int) (s : ByteArray) (A : Option Addr) (c : Nat) (w : World) (hA : NodesAt w A t.nodes) :
    Calls Try.prog 16 #[.agg #[.slice A t.nodes.length c, .int .i64 t.now], .int .i64 d, .string s] w fun e w' => e = .returned (.int .i64 (tFind t d s)) ∧ Below w.heap.size w w' := by
  have HF := Lib.hid hF
  have HA := Lib.hid hA
  clear hF hA
  cases h : treeOK t with
  | false =>
    have HT : Hid (tFind t d s = 0) := by unfold tFind; rw [if_neg (by rw [h]; decide)]; rfl
    have HO := Lib.hid h
    clear h
    go_enter Try.func16, Try.ntmps16
    go_wp2_with (go_at_call 26; refine (refCheck_calls t HF.out _ _ _ (HA.out.keep ((Below.refl _ _).alloc (Nat.le_refl _) _))).mono ?_; rintro _ w1 ⟨rfl, hb1⟩; rw [HO.out])
    go_ret
    exact ⟨ret_int HT.out.symm, below_step (below_alloc (Below.refl _ _) _) hb1⟩
  | true =>
    have HT : Hid (tFind t d s = tIn t d s) := by unfold tFind; rw [if_pos h]; rfl
    have HO := Lib.hid h
    clear h
    go_enter Try.func16, Try.ntmps16
    go_wp2_with (first
      | (go_at_call 26; refine (refCheck_calls t HF.out _ _ _ (HA.out.keep ((Below.refl _ _).alloc (Nat.le_refl _) _))).mono ?_; rintro _ w1 ⟨rfl, hb1⟩; rw [HO.out]; have k0 := cell_keep hb1 (p := ⟨w.heap.size, 0, none⟩) (v := .slice A t.nodes.length c) (by rw [World.cell?_alloc_new]; rfl); have k1 := cell_keep hb1 (p := ⟨w.heap.size, 1, none⟩) (v := .int .i64 t.now) (by rw [World.cell?_alloc_new]; rfl); have hb2 := below_step (below_alloc (Below.refl _ _) _) hb1; clear hb1)
      | (go_at_call 35; refine (refIn_calls t HF.out _ _ _ _ _ (HA.out.keep (by assumption))).mono ?_; rintro _ w2 ⟨rfl, hb3⟩))
    go_ret
    exact ⟨ret_int HT.out.symm, below_step (by assumption) hb3⟩
set_option maxHeartbeats 2000000 in
set_option maxRecDepth 100000 in
theorem refOf_calls (t : TTree) (hF : t.Fits) (n : Int) (h0 : 0 ≤ n) (h1 : n < t.nodes.length) (A : Option Addr) (c : Nat) (w : World) (hA : NodesAt w A t.nodes) :
    Calls Try.prog 27 #[.agg #[.slice A t.nodes.length c, .int .i64 t.now], .int .i64 n] w fun e w' => e = .returned (statV n (t.at n)) ∧ Below w.heap.size w w' := by
  obtain ⟨x, hx⟩ : ∃ x, t.nodes[n.toNat]? = some x := ⟨t.nodes[n.toNat]'(by omega), by simp⟩
  rw [at_eq hx]
  have hf := hF.each x (List.mem_of_getElem? hx)
  obtain ⟨b, o, D, cd, L, cl, rfl, -, -, -, -, x0, x1, x2, x3, x4, x5, x6, x7, x8, x9⟩ := hA.get hx
  have hd := hf.data
  have ht := hf.target
  have hl := hf.list
  have hbl := World.block_lt_of_cell? _ _ x0
  dsimp only at hbl
  clear hA hx hF hf
  go_enter Try.func27, Try.ntmps27
  go_wp2
  refine bodyPost_ret (by simp [results, Try.results27, go_sem]; rfl) rfl ?_
  exact ⟨rfl, (by repeat (first | exact Below.refl _ _ | assumption | refine Below.drew ?_ | refine below_drewN ?_ _ | refine below_alloc ?_ _ | refine below_set ?_ (by simp) _ | refine below_step ?_ (by assumption)))⟩
set_option maxHeartbeats 2000000 in
set_option maxRecDepth 100000 in
theorem refStat_calls (t : TTree) (hF : t.Fits) (n : Int) (A : Option Addr) (c : Nat) (w : World) (hA : NodesAt w A t.nodes) :
    Calls Try.prog 10 #[.agg #[.slice A t.nodes.length c, .int .i64 t.now], .int .i64 n] w fun e w' => e = .returned (.tuple #[tStat t n, .int .i64 (tStatE t n)]) ∧ Below w.heap.size w w' := by
  have hn47 := hF.nodes
  have HF := Lib.hid hF
  have HA := Lib.hid hA
  clear hF
  unfold tStat tStatE
  cases hok : treeOK t with
  | false =>
    have HR : isNodeB t n = false := by unfold isNodeB; rw [hok]; rfl
    rw [HR]
    have HO := Lib.hid hok
    clear hok hA HR
    go_enter Try.func10, Try.ntmps10
    go_wp2_with (first | (go_at_call 26; refine (refCheck_calls t HF.out _ _ _ (HA.out.keep (below_alloc (below_alloc (Below.refl _ _) _) _))).mono ?_; rintro _ w1 ⟨rfl, hb1⟩; rw [HO.out]; have k0 := cell_keep hb1 (p := ⟨w.heap.size, 0, none⟩) (v := .slice A t.nodes.length c) (by simp [go_sem]); have k1 := cell_keep hb1 (p := ⟨w.heap.size, 1, none⟩) (v := .int .i64 t.now) (by simp [go_sem]); have h8 := (hb1.block (w.heap.size + 1) (by simp)).trans (heap_alloc2_new _ _ _); have hb2 := below_step (below_alloc (below_alloc (Below.refl _ _) _) _) hb1; clear hb1) | (refine wpList_store_rowTo rfl 30 _ _ rfl rfl (w.heap.size + 1) #[.int .i64 0, .int .u8 0, .int .i64 0, .int .i64 0, .int .i64 0, .int .i64 0, .int .i64 0, .int .i64 0] rfl rfl 30 _ h8 (by kernel_rfl) rfl (by simp [Value.oneCell']) ?_; have h9 := setRow_heap w1 (w.heap.size + 1) _ #[.int .i64 0, .int .u8 0, .int .i64 0, .int .i64 0, .int .i64 0, .int .i64 0, .int .i64 0, .int .i64 0] _ _ h8))
    have hL := run_loadVar_row (P := Try.prog) _ _ _ 30 _ _ _ h9 Try.underlying30 rfl (by kernel_rfl)
    refine bodyPost_ret (v := .tuple #[noStat, .int .i64 1]) (results_cell_tmp rfl rfl rfl hL) rfl ?_
    exact ⟨rfl, below_setRow hb2 (by omega) _⟩
  | true =>
    have HO := Lib.hid hok
    by_cases h1 : 1 ≤ n
    · by_cases h2 : n < (t.nodes.length : Int)
      · obtain ⟨x, hx⟩ : ∃ x, t.nodes[n.toNat]? = some x := ⟨t.nodes[n.toNat]'(by omega), by simp⟩
        have hat := at_eq hx
        have HR : isNodeB t n = (x.kind != 0) := by unfold isNodeB; rw [hok, hat, decide_eq_true h1, decide_eq_true h2]; rfl
        rw [HR, ← hat]
        obtain ⟨b, o, Dx, cdx, Lx, clx, rfl, -, -, -, -, x0, -, -, -, -, -, -, -, -, -⟩ := hA.get hx
        rw [← hat] at x0
        have h0 : 0 ≤ n := by omega
        have hbl := World.block_lt_of_cell? _ _ x0
        dsimp only at hbl
        cases hk : ((t.at n).kind == 0) with
        | true =>
          have hk2 : ((t.at n).kind != 0) = false := by simp [bne, hk]
          rw [hk2]
          clear hA hok hx hat HR
          go_enter Try.func10, Try.ntmps10
          go_wp2_with (first | (go_at_call 26; refine (refCheck_calls t HF.out _ _ _ (HA.out.keep (below_alloc (below_alloc (Below.refl _ _) _) _))).mono ?_; rintro _ w1 ⟨rfl, hb1⟩; rw [HO.out]; have k0 := cell_keep hb1 (p := ⟨w.heap.size, 0, none⟩) (v := .slice (some ⟨b, o, none⟩) t.nodes.length c) (by simp [go_sem]); have k1 := cell_keep hb1 (p := ⟨w.heap.size, 1, none⟩) (v := .int .i64 t.now) (by simp [go_sem]); have h8 := (hb1.block (w.heap.size + 1) (by simp)).trans (heap_alloc2_new _ _ _); have hb2 := below_step (below_alloc (below_alloc (Below.refl _ _) _) _) hb1; clear hb1; replace x0 := cell_keep hb2 x0; have hbl1 := below_lt hb2 hbl) | (refine wpList_store_rowTo rfl 30 _ _ rfl rfl (w.heap.size + 1) #[.int .i64 0, .int .u8 0, .int .i64 0, .int .i64 0, .int .i64 0, .int .i64 0, .int .i64 0, .int .i64 0] rfl rfl 30 _ h8 (by kernel_rfl) rfl (by simp [Value.oneCell']) ?_; have h9 := setRow_heap w1 (w.heap.size + 1) _ #[.int .i64 0, .int .u8 0, .int .i64 0, .int .i64 0, .int .i64 0, .int .i64 0, .int .i64 0, .int .i64 0] _ _ h8))
          have hL := run_loadVar_row (P := Try.prog) _ _ _ 30 _ _ _ h9 Try.underlying30 rfl (by kernel_rfl)
          refine bodyPost_ret (v := .tuple #[noStat, .int .i64 1]) (results_cell_tmp rfl rfl rfl hL) rfl ?_
          exact ⟨rfl, below_setRow hb2 (by omega) _⟩
        | false =>
          have hk2 : ((t.at n).kind != 0) = true := by simp [bne, hk]
          rw [hk2]
          clear hA hok hx hat HR
          go_enter Try.func10, Try.ntmps10
          go_wp2_with (first
            | (go_at_call 26; refine (refCheck_calls t HF.out _ _ _ (HA.out.keep (below_alloc (below_alloc (Below.refl _ _) _) _))).mono ?_; rintro _ w1 ⟨rfl, hb1⟩; rw [HO.out]; have k0 := cell_keep hb1 (p := ⟨w.heap.size, 0, none⟩) (v := .slice (some ⟨b, o, none⟩) t.nodes.length c) (by simp [go_sem]); have k1 := cell_keep hb1 (p := ⟨w.heap.size, 1, none⟩) (v := .int .i64 t.now) (by simp [go_sem]); have h8 := (hb1.block (w.heap.size + 1) (by simp)).trans (heap_alloc2_new _ _ _); have hb2 := below_step (below_alloc (below_alloc (Below.refl _ _) _) _) hb1; clear hb1; replace x0 := cell_keep hb2 x0; have hbl1 := below_lt hb2 hbl)
            | (go_at_call 27; refine (refOf_calls t HF.out n h0 h2 _ _ _ (HA.out.keep hb2)).mono ?_; rintro _ w3 ⟨rfl, hb3⟩; replace h8 := (hb3.block _ (Array.getElem?_eq_some_iff.1 h8).1).trans h8; have hb4 := below_step hb2 hb3)
            | (refine wpList_store_rowTo rfl 30 _ _ rfl rfl (w.heap.size + 1) #[.int .i64 n, .int .u8 (t.at n).kind, .int .i64 (t.at n).mode, .int .i64 (t.at n).user, .int .i64 (t.at n).group, .int .i64 (t.at n).links, .int .i64 ((((t.at n).data.length + (t.at n).target.size : Nat) : Int) + ((t.at n).list.length : Nat)), .int .i64 (t.at n).time] rfl rfl 30 _ h8 (by kernel_rfl) rfl (by simp [Value.oneCell']) ?_; have h9 := setRow_heap w3 (w.heap.size + 1) _ #[.int .i64 n, .int .u8 (t.at n).kind, .int .i64 (t.at n).mode, .int .i64 (t.at n).user, .int .i64 (t.at n).group, .int .i64 (t.at n).links, .int .i64 ((((t.at n).data.length + (t.at n).target.size : Nat) : Int) + ((t.at n).list.length : Nat)), .int .i64 (t.at n).time] _ _ h8))
          have hL := run_loadVar_row (P := Try.prog) _ _ _ 30 _ _ _ h9 Try.underlying30 rfl (by kernel_rfl)
          refine bodyPost_ret (v := .tuple #[statV n (t.at n), .int .i64 0]) (results_cell_tmp rfl rfl rfl hL) rfl ?_
          exact ⟨rfl, below_setRow hb4 (by omega) _⟩
      · have HR : isNodeB t n = false := by unfold isNodeB; rw [decide_eq_false h2]; simp
        have h2' : (n ≥ (t.nodes.length : Int)) := by omega
        rw [HR]
        clear hA hok HR
        go_enter Try.func10, Try.ntmps10
        go_wp2_with (first | (go_at_call 26; refine (refCheck_calls t HF.out _ _ _ (HA.out.keep (below_alloc (below_alloc (Below.refl _ _) _) _))).mono ?_; rintro _ w1 ⟨rfl, hb1⟩; rw [HO.out]; have k0 := cell_keep hb1 (p := ⟨w.heap.size, 0, none⟩) (v := .slice A t.nodes.length c) (by simp [go_sem]); have k1 := cell_keep hb1 (p := ⟨w.heap.size, 1, none⟩) (v := .int .i64 t.now) (by simp [go_sem]); have h8 := (hb1.block (w.heap.size + 1) (by simp)).trans (heap_alloc2_new _ _ _); have hb2 := below_step (below_alloc (below_alloc (Below.refl _ _) _) _) hb1; clear hb1) | (refine wpList_store_rowTo rfl 30 _ _ rfl rfl (w.heap.size + 1) #[.int .i64 0, .int .u8 0, .int .i64 0, .int .i64 0, .int .i64 0, .int .i64 0, .int .i64 0, .int .i64 0] rfl rfl 30 _ h8 (by kernel_rfl) rfl (by simp [Value.oneCell']) ?_; have h9 := setRow_heap w1 (w.heap.size + 1) _ #[.int .i64 0, .int .u8 0, .int .i64 0, .int .i64 0, .int .i64 0, .int .i64 0, .int .i64 0, .int .i64 0] _ _ h8))
        have hL := run_loadVar_row (P := Try.prog) _ _ _ 30 _ _ _ h9 Try.underlying30 rfl (by kernel_rfl)
        refine bodyPost_ret (v := .tuple #[noStat, .int .i64 1]) (results_cell_tmp rfl rfl rfl hL) rfl ?_
        exact ⟨rfl, below_setRow hb2 (by omega) _⟩
    · have HR : isNodeB t n = false := by unfold isNodeB; rw [decide_eq_false h1]; simp
      have h1' : n < 1 := by omega
      rw [HR]
      clear hA hok HR
      go_enter Try.func10, Try.ntmps10
      go_wp2_with (first | (go_at_call 26; refine (refCheck_calls t HF.out _ _ _ (HA.out.keep (below_alloc (below_alloc (Below.refl _ _) _) _))).mono ?_; rintro _ w1 ⟨rfl, hb1⟩; rw [HO.out]; have k0 := cell_keep hb1 (p := ⟨w.heap.size, 0, none⟩) (v := .slice A t.nodes.length c) (by simp [go_sem]); have k1 := cell_keep hb1 (p := ⟨w.heap.size, 1, none⟩) (v := .int .i64 t.now) (by simp [go_sem]); have h8 := (hb1.block (w.heap.size + 1) (by simp)).trans (heap_alloc2_new _ _ _); have hb2 := below_step (below_alloc (below_alloc (Below.refl _ _) _) _) hb1; clear hb1) | (refine wpList_store_rowTo rfl 30 _ _ rfl rfl (w.heap.size + 1) #[.int .i64 0, .int .u8 0, .int .i64 0, .int .i64 0, .int .i64 0, .int .i64 0, .int .i64 0, .int .i64 0] rfl rfl 30 _ h8 (by kernel_rfl) rfl (by simp [Value.oneCell']) ?_; have h9 := setRow_heap w1 (w.heap.size + 1) _ #[.int .i64 0, .int .u8 0, .int .i64 0, .int .i64 0, .int .i64 0, .int .i64 0, .int .i64 0, .int .i64 0] _ _ h8))
      have hL := run_loadVar_row (P := Try.prog) _ _ _ 30 _ _ _ h9 Try.underlying30 rfl (by kernel_rfl)
      refine bodyPost_ret (v := .tuple #[noStat, .int .i64 1]) (results_cell_tmp rfl rfl rfl hL) rfl ?_
      exact ⟨rfl, below_setRow hb2 (by omega) _⟩
set_option maxHeartbeats 2000000 in
set_option maxRecDepth 100000 in
theorem refSizes_calls (t : TTree) (hF : t.Fits) (A : Option Addr) (c : Nat) (w : World) (hA : NodesAt w A t.nodes) :
    Calls Try.prog 14 #[.agg #[.slice A t.nodes.length c, .int .i64 t.now]] w fun e w' => e = .returned (.tuple #[.int .i64 (tFiles t), .int .i64 (tBytes t)]) ∧ Below w.heap.size w w' := by
  have hn47 := hF.nodes
  have HF := Lib.hid hF
  have HA := Lib.hid hA
  clear hF
  unfold tFiles tBytes
  cases hok : treeOK t with
  | false =>
    have HO := Lib.hid hok
    clear hok hA
    go_enter Try.func14, Try.ntmps14
    go_wp2_with (go_at_call 26; refine (refCheck_calls t HF.out _ _ _ (HA.out.keep (below_alloc (Below.refl _ _) _))).mono ?_; rintro _ w1 ⟨rfl, hb1⟩; rw [HO.out])
    go_ret2
    exact ⟨rfl, (by repeat (first | exact Below.refl _ _ | assumption | refine Below.drew ?_ | refine below_drewN ?_ _ | refine below_alloc ?_ _ | refine below_set ?_ (by simp) _ | refine below_step ?_ (by assumption)))⟩
  | true =>
    have HO := Lib.hid hok
    have HOK := Lib.hid (TreeOK.of hok)
    have h513 := HOK.out.head.most
    clear hok
    obtain ⟨x1, hx1⟩ : ∃ x, t.nodes[1]? = some x := ⟨t.nodes[1]'(by have := HOK.out.head.two; omega), by simp⟩
    obtain ⟨b, o, D1, cd1, L1, cl1, rfl, -, -, -, -, -, -, -, -, -, -, -, -, -, -⟩ := hA.get hx1
    clear hx1 hA
    go_enter Try.func14, Try.ntmps14
    go_wp2_with (go_at_call 26; refine (refCheck_calls t HF.out _ _ _ (HA.out.keep (below_alloc (Below.refl _ _) _))).mono ?_; rintro _ w1 ⟨rfl, hb1⟩; rw [HO.out]; have k0 := cell_keep hb1 (p := ⟨w.heap.size, 0, none⟩) (v := .slice (some ⟨b, o, none⟩) t.nodes.length c) (by simp [go_sem]); have hb2 := below_step (below_alloc (Below.refl _ _) _) hb1; clear hb1)
    go_loopg [4, 5, 6] t.nodes.length (fun g s4 s5 s6 wr => ∃ i : Nat, i + g = t.nodes.length ∧ s4 = .int .i64 (t.files i : Nat) ∧ s5 = .int .i64 (t.bytes i : Nat) ∧ s6 = .int .i64 i ∧ t.files i ≤ i ∧ t.bytes i ≤ i * 140737488355328 ∧ Below w.heap.size w wr ∧ wr.cell? ⟨w.heap.size, 0, none⟩ = some (.slice (some ⟨b, o, none⟩) t.nodes.length c))
    case atStart => exact ⟨0, by omega, rfl, rfl, rfl, by simp [TTree.files], by simp [TTree.bytes], hb2, k0⟩
    case round =>
      clear k0 hb2
      obtain ⟨i, hg, rfl, rfl, rfl, hfi, hby, hb, k0⟩ := hrel
      cases gk with
      | zero =>
        obtain rfl : i = t.nodes.length := by omega
        go_wp2
        go_ret2
        exact ⟨rfl, hb⟩
      | succ g =>
        obtain ⟨n, hni⟩ : ∃ n, t.nodes[i]? = some n := ⟨t.nodes[i]'(by omega), by simp⟩
        obtain ⟨b', o', Da, cd, L, cl, hA', hcd, hD, hcl, hL, c0, c1, c2, c3, c4, c5, c6, c7, c8, c9⟩ := HA.out.get hni
        cases hA'
        have hdl := (HF.out.each n (List.mem_of_getElem? hni)).data
        replace c0 := cell_keep hb c0
        replace c1 := cell_keep hb c1
        replace c2 := cell_keep hb c2
        replace c3 := cell_keep hb c3
        replace c4 := cell_keep hb c4
        replace c5 := cell_keep hb c5
        replace c6 := cell_keep hb c6
        replace c7 := cell_keep hb c7
        replace c8 := cell_keep hb c8
        replace c9 := cell_keep hb c9
        have HNI := Lib.hid hni
        clear hni hD hL
        cases hk : (n.kind != 0) with
        | true =>
          have hf1 : t.files (i + 1) = t.files i + 1 := by rw [files_succ HNI.out, hk]; rfl
          have HF1 := Lib.hid hf1
          clear hf1
          go_wp2
          go_roundg g
          case measure => omega
          case rel =>
            refine ⟨i + 1, by omega, by rw [HF1.out]; push_cast; rfl, by rw [bytes_succ HNI.out]; push_cast; rfl, by go_num, by rw [HF1.out]; omega, by rw [bytes_succ HNI.out]; omega, hb, k0⟩
        | false =>
          have hf1 : t.files (i + 1) = t.files i := by rw [files_succ HNI.out, hk]; rfl
          have HF1 := Lib.hid hf1
          clear hf1
          go_wp2
          go_roundg g
          case measure => omega
          case rel =>
            refine ⟨i + 1, by omega, by rw [HF1.out], by rw [bytes_succ HNI.out]; push_cast; rfl, by go_num, by rw [HF1.out]; omega, by rw [bytes_succ HNI.out]; omega, hb, k0⟩
end Go.Proofs.Ytfoocjdnolplpaa
