/- The reference of layer 12: dir, Depth, In, Find, Of, Stat, Sizes. -/
import Derived.Test.YtbfcfjgcmideeaaGreatDoorRefCheck
import Derived.Test.YtbfcfjgcmideeaaGreatDoorS1
namespace Go.Proofs.YtbfcfjgcmideeaaGreatDoor
open Go.RowKit
attribute [local go_sem] Later.cell_eq
set_option maxHeartbeats 2000000 in
set_option maxRecDepth 100000 in
theorem refIsDir_calls (t : TTree) (hF : t.Fits) (n : Int) (A : Option Addr) (c : Nat) (w : World) (hA : NodesAt w A t.nodes) :
    Calls Tryz.prog 275 #[.agg #[.slice A t.nodes.length c, .int .i64 t.now], .int .i64 n] w fun e w' => e = .returned (.bool (isDirB t n)) ∧ Below w.heap.size w w' := by
  have hn47 := hF.nodes
  have HF := Lib.hid hF
  have HA := Lib.hid hA
  clear hF
  cases hok : treeOK t with
  | false =>
    have HR : Hid (isDirB t n = false) := by unfold isDirB; rw [hok]; rfl
    have HO := Lib.hid hok
    clear hok hA
    go_enter Tryz.func275, Tryz.ntmps275
    go_wp2_with (go_at_call 110; refine (refCheck_calls t HF.out _ _ _ (HA.out.keep ((Below.refl _ _).alloc (Nat.le_refl _) _))).mono ?_; rintro _ w1 ⟨rfl, hb1⟩; rw [HO.out])
    go_ret
    exact ⟨ret_bool HR.out.symm, below_step (below_alloc (Below.refl _ _) _) hb1⟩
  | true =>
    have HO := Lib.hid hok
    by_cases h1 : 1 ≤ n
    · by_cases h2 : n < (t.nodes.length : Int)
      · obtain ⟨x, hx⟩ : ∃ x, t.nodes[n.toNat]? = some x := ⟨t.nodes[n.toNat]'(by omega), by simp⟩
        have hat : t.at n = x := by simp [TTree.at, hx]
        have HR : Hid (isDirB t n = (x.kind == 2)) := by unfold isDirB; rw [hok, hat, decide_eq_true h1, decide_eq_true h2]; rfl
        obtain ⟨b, o, Dx, cdx, Lx, clx, rfl, -, -, -, -, x0, -, -, -, -, -, -, -, -, -⟩ := hA.get hx
        have h0 : 0 ≤ n := by omega
        clear hA hok hx hat
        go_enter Tryz.func275, Tryz.ntmps275
        go_wp2_with (go_at_call 110; refine (refCheck_calls t HF.out _ _ _ (HA.out.keep ((Below.refl _ _).alloc (Nat.le_refl _) _))).mono ?_; rintro _ w1 ⟨rfl, hb1⟩; rw [HO.out]; have k0 := cell_keep hb1 (p := ⟨w.heap.size, 0, none⟩) (v := .slice (some ⟨b, o, none⟩) t.nodes.length c) (by rw [World.cell?_alloc_new]; rfl); have hb2 := below_step (below_alloc (Below.refl _ _) _) hb1; clear hb1; replace x0 := cell_keep hb2 x0)
        all_goals go_ret
        all_goals exact ⟨ret_bool HR.out.symm, hb2⟩
      · have HR := Lib.hid (show isDirB t n = false by unfold isDirB; rw [decide_eq_false h2]; simp)
        clear hA hok
        go_enter Tryz.func275, Tryz.ntmps275
        go_wp2_with (go_at_call 110; refine (refCheck_calls t HF.out _ _ _ (HA.out.keep ((Below.refl _ _).alloc (Nat.le_refl _) _))).mono ?_; rintro _ w1 ⟨rfl, hb1⟩; rw [HO.out]; have k0 := cell_keep hb1 (p := ⟨w.heap.size, 0, none⟩) (v := .slice A t.nodes.length c) (by rw [World.cell?_alloc_new]; rfl); have hb2 := below_step (below_alloc (Below.refl _ _) _) hb1; clear hb1)
        go_ret
        exact ⟨ret_bool HR.out.symm, hb2⟩
    · have HR := Lib.hid (show isDirB t n = false by unfold isDirB; rw [decide_eq_false h1]; simp)
      clear hA hok
      go_enter Tryz.func275, Tryz.ntmps275
      go_wp2_with (go_at_call 110; refine (refCheck_calls t HF.out _ _ _ (HA.out.keep ((Below.refl _ _).alloc (Nat.le_refl _) _))).mono ?_; rintro _ w1 ⟨rfl, hb1⟩; rw [HO.out]; have k0 := cell_keep hb1 (p := ⟨w.heap.size, 0, none⟩) (v := .slice A t.nodes.length c) (by rw [World.cell?_alloc_new]; rfl); have hb2 := below_step (below_alloc (Below.refl _ _) _) hb1; clear hb1)
      go_ret
      exact ⟨ret_bool HR.out.symm, hb2⟩
set_option maxHeartbeats 2000000 in
set_option maxRecDepth 100000 in
theorem refDepth_calls (t : TTree) (hF : t.Fits) (n : Int) (A : Option Addr) (c : Nat) (w : World) (hA : NodesAt w A t.nodes) :
    Calls Tryz.prog 250 #[.agg #[.slice A t.nodes.length c, .int .i64 t.now], .int .i64 n] w fun e w' => e = .returned (.int .i64 (tDepth t n)) ∧ Below w.heap.size w w' := by
  have HF := Lib.hid hF
  have HA := Lib.hid hA
  clear hF hA
  cases h : isDirB t n with
  | false =>
    have HT : Hid (tDepth t n = 0) := by unfold tDepth; rw [if_neg (by rw [h]; decide)]; rfl
    have HO := Lib.hid h
    clear h
    go_enter Tryz.func250, Tryz.ntmps250
    go_wp2_with (go_at_call 275; refine (refIsDir_calls t HF.out _ _ _ _ (HA.out.keep ((Below.refl _ _).alloc (Nat.le_refl _) _))).mono ?_; rintro _ w1 ⟨rfl, hb1⟩; rw [HO.out])
    go_ret
    exact ⟨ret_int HT.out.symm, below_step (below_alloc (Below.refl _ _) _) hb1⟩
  | true =>
    have HT : Hid (tDepth t n = (deepN t 32 n : Nat)) := by unfold tDepth; rw [if_pos h]; rfl
    have hd := (isDirB_iff t n).mp h
    have HU := Lib.hid (hd.1.up hd.2.1 hd.2.2.1 hd.2.2.2)
    have HO := Lib.hid h
    clear h hd
    go_enter Tryz.func250, Tryz.ntmps250
    go_wp2_with (first
      | (go_at_call 275; refine (refIsDir_calls t HF.out _ _ _ _ (HA.out.keep ((Below.refl _ _).alloc (Nat.le_refl _) _))).mono ?_; rintro _ w1 ⟨rfl, hb1⟩; rw [HO.out]; have k0 := cell_keep hb1 (p := ⟨w.heap.size, 0, none⟩) (v := .slice A t.nodes.length c) (by rw [World.cell?_alloc_new]; rfl); have k1 := cell_keep hb1 (p := ⟨w.heap.size, 1, none⟩) (v := .int .i64 t.now) (by rw [World.cell?_alloc_new]; rfl); have hb2 := below_step (below_alloc (Below.refl _ _) _) hb1; clear hb1)
      | (go_at_call 180; refine (refUp_calls t HF.out n _ _ _ (HA.out.keep (by assumption))).mono ?_; rintro _ w2 ⟨rfl, hb3⟩))
    go_ret
    exact ⟨ret_int (by rw [HT.out]; unfold refUp; rw [upZ_deep t 32 0 n (by omega) HU.out]; omega), below_step (by assumption) hb3⟩
theorem inList_cons (e : TEnt) (l : List TEnt) (s : ByteArray) : inList (e :: l) s = if e.name = s then e.node else inList l s := by
  unfold inList
  rw [List.find?_cons]
  by_cases h : e.name = s
  · rw [if_pos h, (beq_name e.name s).mpr h]
  · rw [if_neg h, show sameB e.name s = false by rw [Bool.eq_false_iff]; exact fun h' => h ((beq_name _ _).mp h')]
set_option maxHeartbeats 1000000 in
set_option maxRecDepth 100000 in
theorem refIn_calls (t : TTree) (hF : t.Fits) (d : Int) (s : ByteArray) (A : Option Addr) (c : Nat) (w : World) (hA : NodesAt w A t.nodes) :
    Calls Tryz.prog 218 #[.agg #[.slice A t.nodes.length c, .int .i64 t.now], .int .i64 d, .string s] w fun e w' => e = .returned (.int .i64 (tIn t d s)) ∧ Below w.heap.size w w' := by
  have hn47 := hF.nodes
  by_cases h1 : d < 1
  · have HT := Lib.hid (show tIn t d s = 0 by unfold tIn; rw [if_pos (Or.inl h1)])
    clear hF hA
    go_enter Tryz.func218, Tryz.ntmps218
    go_wp2
    go_ret
    exact ⟨ret_int HT.out.symm, (by repeat (first | exact Below.refl _ _ | assumption | refine Below.drew ?_ | refine below_drewN ?_ _ | refine below_alloc ?_ _ | refine below_set ?_ (by simp) _ | refine below_step ?_ (by assumption)))⟩
  · by_cases h2 : (t.nodes.length : Int) ≤ d
    · have HT := Lib.hid (show tIn t d s = 0 by unfold tIn; rw [if_pos (Or.inr h2)])
      clear hF hA
      go_enter Tryz.func218, Tryz.ntmps218
      go_wp2
      go_ret
      exact ⟨ret_int HT.out.symm, (by repeat (first | exact Below.refl _ _ | assumption | refine Below.drew ?_ | refine below_drewN ?_ _ | refine below_alloc ?_ _ | refine below_set ?_ (by simp) _ | refine below_step ?_ (by assumption)))⟩
    · obtain ⟨x, hx⟩ : ∃ x, t.nodes[d.toNat]? = some x := ⟨t.nodes[d.toNat]'(by omega), by simp⟩
      obtain ⟨b, o, Dx, cdx, Lx, clx, rfl, -, -, hcl, hL, -, -, -, -, -, -, -, -, x8, -⟩ := hA.get hx
      have HT := Lib.hid (show tIn t d s = inList x.list s by unfold tIn; rw [if_neg (by omega), at_eq' hx])
      have hxl := (hF.each x (List.mem_of_getElem? hx)).list
      have HL := Lib.hid hL
      have hbl := World.block_lt_of_cell? _ _ x8
      dsimp only at hbl
      have hd0 : 0 ≤ d := by omega
      have hd1 : d < (t.nodes.length : Int) := by omega
      clear hF hA hx hL
      go_enter Tryz.func218, Tryz.ntmps218
      go_wp2
      go_loopg [8] x.list.length (fun g s8 wr => ∃ i : Nat, i + g = x.list.length ∧ s8 = .int .i64 i ∧ Hid (inList (x.list.drop i) s = inList x.list s) ∧ Below w.heap.size w wr)
      case atStart => exact ⟨0, by omega, rfl, Lib.hid (by rw [List.drop_zero]), (by repeat (first | exact Below.refl _ _ | assumption | refine Below.drew ?_ | refine below_drewN ?_ _ | refine below_alloc ?_ _ | refine below_set ?_ (by simp) _ | refine below_step ?_ (by assumption)))⟩
      case round =>
        obtain ⟨i, hg, rfl, HI, hb⟩ := hrel
        cases gk with
        | zero =>
          obtain rfl : i = x.list.length := by omega
          go_wp2
          go_ret
          exact ⟨ret_int (by rw [HT.out, ← HI.out, List.drop_length]; rfl), hb⟩
        | succ g =>
          obtain ⟨e, he⟩ : ∃ e, x.list[i]? = some e := ⟨x.list[i]'(by omega), by simp⟩
          obtain ⟨b', o', rfl, e0, e1⟩ := HL.out i e he
          replace e0 := cell_keep hb e0
          replace e1 := cell_keep hb e1
          have HD := Lib.hid (show x.list.drop i = e :: x.list.drop (i + 1) by
            rw [List.drop_eq_getElem_cons (List.getElem?_eq_some_iff.1 he).1, (List.getElem?_eq_some_iff.1 he).2])
          clear he
          by_cases hn : e.name = s
          · have hn1 : (e.name.toList == s.toList) = true := by simp [hn]
            have HN := Lib.hid hn
            have HS := Lib.hid (show inList x.list s = e.node by rw [← HI.out, HD.out, inList_cons, if_pos hn])
            clear hn
            go_wp2
            go_ret
            exact ⟨ret_int (by rw [HT.out, HS.out]), hb⟩
          · have hn1 : (e.name.toList == s.toList) = false := by
              rw [beq_eq_false_iff_ne]
              intro h
              exact hn (str_ext (by rw [← ByteArray.toList_eq, ← ByteArray.toList_eq, h]))
            have HS := Lib.hid (show inList (x.list.drop (i + 1)) s = inList x.list s by rw [← HI.out, HD.out, inList_cons, if_neg hn])
            clear hn
            go_wp2
            go_roundg g
            case measure => omega
            case rel => exact ⟨i + 1, by omega, by go_num, HS, hb⟩
set_option maxHeartbeats 2000000 in
set_option maxRecDepth 100000 in
theorem refOf_calls (t : TTree) (hF : t.Fits) (n : Int) (h0 : 0 ≤ n) (h1 : n < t.nodes.length) (A : Option Addr) (c : Nat) (w : World) (hA : NodesAt w A t.nodes) :
    Calls Tryz.prog 111 #[.agg #[.slice A t.nodes.length c, .int .i64 t.now], .int .i64 n] w fun e w' => e = .returned (statV n (t.at n)) ∧ Below w.heap.size w w' := by
  obtain ⟨x, hx⟩ : ∃ x, t.nodes[n.toNat]? = some x := ⟨t.nodes[n.toNat]'(by omega), by simp⟩
  rw [at_eq hx]
  have hf := hF.each x (List.mem_of_getElem? hx)
  obtain ⟨b, o, D, cd, L, cl, rfl, -, -, -, -, x0, x1, x2, x3, x4, x5, x6, x7, x8, x9⟩ := hA.get hx
  have hd := hf.data
  have ht := hf.target
  have hl := hf.list
  have hbl := World.block_lt_of_cell? _ _ x0
  dsimp only at hbl
  clear hA hx hF hf
  go_enter Tryz.func111, Tryz.ntmps111
  go_wp2
  refine bodyPost_ret (by simp [results, Tryz.results111, go_sem]; rfl) rfl ?_
  exact ⟨rfl, (by repeat (first | exact Below.refl _ _ | assumption | refine Below.drew ?_ | refine below_drewN ?_ _ | refine below_alloc ?_ _ | refine below_set ?_ (by simp) _ | refine below_step ?_ (by assumption)))⟩
end Go.Proofs.YtbfcfjgcmideeaaGreatDoor
