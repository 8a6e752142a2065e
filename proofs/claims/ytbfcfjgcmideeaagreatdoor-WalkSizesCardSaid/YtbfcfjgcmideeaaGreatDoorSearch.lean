/- tree.In, tree.Find: the node of a name in a directory. -/
import Derived.Test.YtbfcfjgcmideeaaGreatDoorCheck
import Derived.Test.YtbfcfjgcmideeaaGreatDoorM1
namespace Go.Proofs.YtbfcfjgcmideeaaGreatDoor
open Go.RowKit
attribute [local go_sem] Later.cell_eq
theorem check_calls (t : TTree) (hF : t.Fits) (A : Option Addr) (c : Nat) (w : World) (hA : NodesAt w A t.nodes) :
    Calls Tryz.prog 33 #[.agg #[.slice A t.nodes.length c, .int .i64 t.now]] w fun e w' => e = .returned (.bool (treeOK t)) ∧ Below w.heap.size w w' := by
  by_cases h : HeadOK t
  · exact check_head t A c w hA hF h
  · refine (check_nohead t A c w hA hF h).mono fun e w' ⟨he, hb⟩ => ⟨?_, hb⟩
    rw [he, treeOK_no fun k => h k.head]

theorem in1_calls (s x : ByteArray) (n : Int) (w : World) :
    Calls Tryz.prog 226 #[.agg #[.string s, .int .i64 n], .string x] w fun e w' => e = .returned (.int .i64 (scmp s x)) ∧ Below w.heap.size w w' := by
  go_enter Tryz.func226, Tryz.ntmps226
  go_wp2_with (go_at_call 227; refine (Tryz.strings_Compare _ _ _).mono ?_; rintro e w' ⟨rfl, hw⟩; rw [hw])
  go_ret
  exact ⟨rfl, (by repeat (first | exact Below.refl _ _ | assumption | refine Below.drew ?_ | refine below_drewN ?_ _ | refine below_alloc ?_ _ | refine below_set ?_ (by simp) _ | refine below_step ?_ (by assumption)))⟩

set_option maxHeartbeats 2000000 in
set_option maxRecDepth 100000 in
theorem search_calls (l : List TEnt) (hl : l.length ≤ 1000000) (hr : Rising l) (A : Option Addr) (c : Nat) (s : ByteArray) (w : World) (hA : EntsAt w A l) :
    Calls Tryz.prog 225 #[.slice A l.length c, .string s, .func (.func 226) #[] #[]] w
      fun e w' => (∃ (i : Nat) (b : Bool), e = .returned (.tuple #[.int .i64 i, .bool b]) ∧ i ≤ l.length ∧ (∀ j f, j < i → l[j]? = some f → strLt f.name s = true) ∧ (∀ j f, i ≤ j → l[j]? = some f → strLt f.name s = false) ∧ (b = true ↔ ∃ f, l[i]? = some f ∧ f.name = s)) ∧ Below w.heap.size w w' := by
  have HA := Lib.hid hA
  have HR := Lib.hid hr
  clear hA hr
  go_enter Tryz.func225, Tryz.ntmps225
  go_wp2
  go_loopg [9, 10] l.length (fun g s9 s10 wr => ∃ i j : Nat, i ≤ j ∧ j ≤ l.length ∧ j - i ≤ g ∧ s9 = .int .i64 i ∧ s10 = .int .i64 j ∧ Below w.heap.size w wr ∧ Hid ((∀ k f, k < i → l[k]? = some f → strLt f.name s = true) ∧ (∀ k f, j ≤ k → l[k]? = some f → strLt f.name s = false)))
  case atStart => exact ⟨0, l.length, by omega, by omega, by omega, rfl, rfl, Below.refl _ _, fun k f h => absurd h (by omega), fun k f h hf => absurd (List.getElem?_eq_some_iff.1 hf).1 (by omega)⟩
  case round =>
    obtain ⟨i, j, hij, hj, hg, rfl, rfl, hb, HS⟩ := hrel
    by_cases hlt : i < j
    · obtain ⟨h, hh⟩ : ∃ h : Nat, ((i : Int) + (j : Int)) / 2 = (h : Int) := ⟨(i + j) / 2, by omega⟩
      have h1 : i ≤ h := by omega
      have h2 : h < j := by omega
      have h3 : h < l.length := by omega
      obtain ⟨e, he⟩ : ∃ e, l[h]? = some e := ⟨l[h], by simp⟩
      obtain ⟨b, o, rfl, e0, e1⟩ := HA.out h e he
      replace e0 := cell_keep hb e0
      replace e1 := cell_keep hb e1
      have HE := Lib.hid he
      clear he
      cases hs : strLt e.name s with
      | true =>
        have hs1 : scmp e.name s < 0 := (scmp_lt _ _).mpr hs
        have HS1 := Lib.hid hs
        clear hs
        go_wp2_with (go_at_call 226; refine (in1_calls _ _ _ _).mono ?_; rintro _ w1 ⟨rfl, hb1⟩)
        go_roundg (gk - 1)
        case measure => omega
        case rel =>
          refine ⟨h + 1, j, by omega, hj, by omega, by go_num, rfl, below_step hb hb1, fun k f hk hf => ?_, HS.out.2⟩
          by_cases c : k = h
          · subst c; rw [HE.out] at hf; cases hf; exact HS1.out
          · exact strLt_trans (HR.out k h f e (by omega) hf HE.out) HS1.out
      | false =>
        have hs1 : ¬ scmp e.name s < 0 := fun h => by rw [scmp_lt, hs] at h; cases h
        have HS1 := Lib.hid hs
        clear hs
        go_wp2_with (go_at_call 226; refine (in1_calls _ _ _ _).mono ?_; rintro _ w1 ⟨rfl, hb1⟩)
        go_roundg (gk - 1)
        case measure => omega
        case rel =>
          refine ⟨i, h, by omega, by omega, by omega, rfl, rfl, below_step hb hb1, HS.out.1, fun k f hk hf => ?_⟩
          by_cases c : k = h
          · subst c; rw [HE.out] at hf; cases hf; exact HS1.out
          · cases hq : strLt f.name s with
            | false => rfl
            | true => rw [strLt_trans (HR.out h k e f (by omega) HE.out hf) hq] at HS1; exact HS1.out
    · obtain rfl : i = j := by omega
      by_cases hi : i < l.length
      · obtain ⟨e, he⟩ : ∃ e, l[i]? = some e := ⟨l[i], by simp⟩
        obtain ⟨b, o, rfl, e0, e1⟩ := HA.out i e he
        replace e0 := cell_keep hb e0
        replace e1 := cell_keep hb e1
        have HE := Lib.hid he
        clear he
        go_wp2_with (go_at_call 226; refine (in1_calls _ _ _ _).mono ?_; rintro _ w1 ⟨rfl, hb1⟩)
        all_goals go_ret2
        all_goals refine ⟨⟨i, _, rfl, by omega, HS.out.1, HS.out.2, ?_⟩, below_step hb hb1⟩
        all_goals (rw [beq_iff_eq, scmp_eq, HE.out]; simp)
      · go_wp2
        go_ret2
        refine ⟨⟨i, _, rfl, by omega, HS.out.1, HS.out.2, ?_⟩, hb⟩
        rw [List.getElem?_eq_none (by omega)]
        simp

def tIn (t : TTree) (d : Int) (s : ByteArray) : Int := if d < 1 ∨ (t.nodes.length : Int) ≤ d then 0 else inList (t.at d).list s
def Listed (t : TTree) : Prop := ∀ (i : Nat) (n : TNode), t.nodes[i]? = some n → Rising n.list ∧ n.list.length ≤ 1000000
theorem TreeOK.listed {t : TTree} (h : TreeOK t) : Listed t := fun i n hn =>
  ⟨listOK_rising (h.lists i n hn), by have := node_list_le (h.each n (List.mem_of_getElem? hn)); omega⟩
set_option maxHeartbeats 1000000 in
set_option maxRecDepth 100000 in
theorem in_calls (t : TTree) (hF : t.Fits) (hL : Listed t) (d : Int) (s : ByteArray) (A : Option Addr) (c : Nat) (w : World) (hA : NodesAt w A t.nodes) :
    Calls Tryz.prog 187 #[.agg #[.slice A t.nodes.length c, .int .i64 t.now], .int .i64 d, .string s] w fun e w' => e = .returned (.int .i64 (tIn t d s)) ∧ Below w.heap.size w w' := by
  have hn47 := hF.nodes
  by_cases h1 : d < 1
  · have HT : Hid (tIn t d s = 0) := by unfold tIn; rw [if_pos (Or.inl h1)]; rfl
    go_enter Tryz.func187, Tryz.ntmps187
    go_wp2
    go_ret
    exact ⟨ret_int HT.out.symm, (by repeat (first | exact Below.refl _ _ | assumption | refine Below.drew ?_ | refine below_drewN ?_ _ | refine below_alloc ?_ _ | refine below_set ?_ (by simp) _ | refine below_step ?_ (by assumption)))⟩
  · by_cases h2 : (t.nodes.length : Int) ≤ d
    · have HT : Hid (tIn t d s = 0) := by unfold tIn; rw [if_pos (Or.inr h2)]; rfl
      go_enter Tryz.func187, Tryz.ntmps187
      go_wp2
      go_ret
      exact ⟨ret_int HT.out.symm, (by repeat (first | exact Below.refl _ _ | assumption | refine Below.drew ?_ | refine below_drewN ?_ _ | refine below_alloc ?_ _ | refine below_set ?_ (by simp) _ | refine below_step ?_ (by assumption)))⟩
    · obtain ⟨x, hx⟩ : ∃ x, t.nodes[d.toNat]? = some x := ⟨t.nodes[d.toNat]'(by omega), by simp⟩
      have HT : Hid (tIn t d s = inList x.list s) := by
        unfold tIn; rw [if_neg (by omega), show t.at d = x by simp [TTree.at, hx]]; rfl
      obtain ⟨hR, hLen⟩ := hL _ _ hx
      obtain ⟨b, o, Dx, cdx, Lx, clx, rfl, -, -, hcl, hE, -, -, -, -, -, -, -, -, x8, -⟩ := hA.get hx
      have hbl := World.block_lt_of_cell? _ _ x8
      dsimp only at hbl
      have HR := Lib.hid hR
      have HE := Lib.hid hE
      have h3 : 0 ≤ d := by omega
      have h4 : d < (t.nodes.length : Int) := by omega
      clear hA hL hx hR hE hF
      go_enter Tryz.func187, Tryz.ntmps187
      go_upto_region 5 with (go_at_call 225; refine (search_calls x.list hLen HR.out _ _ _ _ (EntsAt.keep ((Below.refl _ _).alloc (Nat.le_refl _) _) HE.out)).mono ?_; rintro _ w1 ⟨⟨i, bo, rfl, hi, hlo, hhi, hbo⟩, hb1⟩)
      have hb2 : Below w.heap.size w w1 := below_step (below_alloc (Below.refl _ _) _) hb1
      have HLO := Lib.hid hlo
      have HHI := Lib.hid hhi
      have HBO := Lib.hid hbo
      clear hlo hhi hbo hb1
      cases bo with
      | false =>
        have HZ : Hid (inList x.list s = 0) := inList_miss fun e he hes => by
          obtain ⟨j, hj⟩ := List.getElem?_of_mem he
          by_cases hji : j < i
          · have := HLO.out j e hji hj
            rw [hes, strLt_irrefl] at this; cases this
          · by_cases hij : i = j
            · subst hij
              have := HBO.out.mpr ⟨e, hj, hes⟩
              cases this
            · obtain ⟨f, hf⟩ : ∃ f, x.list[i]? = some f := ⟨x.list[i]'(by have := (List.getElem?_eq_some_iff.1 hj).1; omega), by simp⟩
              have h1 := HHI.out i f (by omega) hf
              have h2 := HR.out i j f e (by omega) hf hj
              rw [hes, h1] at h2; cases h2
        go_wp2
        go_ret
        exact ⟨ret_int (HT.out.trans HZ.out).symm, hb2⟩
      | true =>
        obtain ⟨f, hf, hfs⟩ := HBO.out.mp rfl
        obtain ⟨b2, o2, rfl, e0, e1⟩ := HE.out i f hf
        replace e1 := cell_keep hb2 e1
        have hil : i < x.list.length := (List.getElem?_eq_some_iff.1 hf).1
        have HZ : Hid (inList x.list s = f.node) := by rw [← hfs]; exact inList_hit HR.out hf
        clear e0 hf hfs
        go_wp2
        go_ret
        exact ⟨ret_int (HT.out.trans HZ.out).symm, hb2⟩

noncomputable def tFind (t : TTree) (d : Int) (s : ByteArray) : Int := if treeOK t = true then tIn t d s else 0
set_option maxHeartbeats 1000000 in
set_option maxRecDepth 100000 in
theorem find_calls (t : TTree) (hF : t.Fits) (d : Int) (s : ByteArray) (A : Option Addr) (c : Nat) (w : World) (hA : NodesAt w A t.nodes) :
    Calls Tryz.prog 120 #[.agg #[.slice A t.nodes.length c, .int .i64 t.now], .int .i64 d, .string s] w fun e w' => e = .returned (.int .i64 (tFind t d s)) ∧ Below w.heap.size w w' := by
  have HF := Lib.hid hF
  have HA := Lib.hid hA
  clear hF hA
  cases h : treeOK t with
  | false =>
    have HT : Hid (tFind t d s = 0) := by unfold tFind; rw [if_neg (by rw [h]; decide)]; rfl
    have HO := Lib.hid h
    clear h
    go_enter Tryz.func120, Tryz.ntmps120
    go_wp2_with (go_at_call 33; refine (check_calls t HF.out _ _ _ (HA.out.keep ((Below.refl _ _).alloc (Nat.le_refl _) _))).mono ?_; rintro _ w1 ⟨rfl, hb1⟩; rw [HO.out])
    go_ret
    exact ⟨ret_int HT.out.symm, below_step (below_alloc (Below.refl _ _) _) hb1⟩
  | true =>
    have HT : Hid (tFind t d s = tIn t d s) := by unfold tFind; rw [if_pos h]; rfl
    have HO := Lib.hid h
    clear h
    go_enter Tryz.func120, Tryz.ntmps120
    go_wp2_with (first
      | (go_at_call 33; refine (check_calls t HF.out _ _ _ (HA.out.keep ((Below.refl _ _).alloc (Nat.le_refl _) _))).mono ?_; rintro _ w1 ⟨rfl, hb1⟩; rw [HO.out]; have k0 := cell_keep hb1 (p := ⟨w.heap.size, 0, none⟩) (v := .slice A t.nodes.length c) (by rw [World.cell?_alloc_new]; rfl); have k1 := cell_keep hb1 (p := ⟨w.heap.size, 1, none⟩) (v := .int .i64 t.now) (by rw [World.cell?_alloc_new]; rfl); have hb2 := below_step (below_alloc (Below.refl _ _) _) hb1; clear hb1)
      | (go_at_call 187; refine (in_calls t HF.out (TreeOK.of HO.out).listed _ _ _ _ _ (HA.out.keep (by assumption))).mono ?_; rintro _ w2 ⟨rfl, hb3⟩))
    go_ret
    exact ⟨ret_int HT.out.symm, below_step (by assumption) hb3⟩
end Go.Proofs.YtbfcfjgcmideeaaGreatDoor
