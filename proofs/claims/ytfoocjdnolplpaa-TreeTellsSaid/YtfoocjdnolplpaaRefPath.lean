/- The reference of layer 12: Path. -/
import Derived.Test.YtfoocjdnolplpaaRefB
import Derived.Test.YtfoocjdnolplpaaPath
import Derived.Test.YtfoocjdnolplpaaDown
namespace Go.Proofs.Ytfoocjdnolplpaa
open Go.RowKit
attribute [local go_sem] Later.cell_eq
theorem count_two : ∀ {l : List Nat} {x a b : Nat}, a < b → l[a]? = some x → l[b]? = some x → 2 ≤ l.count x
  | [], _, _, _, _, ha, _ => by simp at ha
  | y :: r, x, 0, b + 1, _, ha, hb => by
    simp at ha hb
    subst ha
    have := List.count_pos_iff.mpr (List.mem_of_getElem? hb)
    rw [List.count_cons_self]; omega
  | y :: r, x, a + 1, b + 1, h, ha, hb => by
    have := count_two (l := r) (x := x) (a := a) (b := b) (by omega) (by simpa using ha) (by simpa using hb)
    rw [List.count_cons]; omega
theorem refs_count_mono (t : TTree) (x : Nat) {i : Nat} : ∀ {j : Nat}, i ≤ j → (t.refs i).count x ≤ (t.refs j).count x
  | 0, h => by obtain rfl : i = 0 := by omega
               exact Nat.le_refl _
  | j + 1, h => by
    by_cases e : i = j + 1
    · subst e; exact Nat.le_refl _
    · have := refs_count_mono t x (i := i) (j := j) (by omega)
      refine Nat.le_trans this ?_
      unfold TTree.refs
      rw [List.take_add_one, List.flatMap_append, List.count_append]
      omega
theorem nameOf_idx {t : TTree} (h : TreeOK t) {x : Int} (h1 : 1 < x) (h2 : x < t.nodes.length) (hk : (t.at x).kind = 2) :
    ∃ (i : Nat) (n : TNode) (k : Nat) (e : TEnt), t.nodes[i]? = some n ∧ n.list[k]? = some e ∧ e.node = x ∧ (t.at x).parent = i ∧ nameOf t x = e.name ∧ nameOK e.name = true ∧ ∀ j f, n.list[j]? = some f → f.node = x → j = k := by
  obtain ⟨i, n, e, hn, he, hex, hp, hnm, -⟩ := nameOf_spec h h1 h2 hk
  obtain ⟨k, hke⟩ := List.getElem?_of_mem he
  refine ⟨i, n, k, e, hn, hke, hex, hp, hnm, h.name_le hn he, fun j f hj hf => ?_⟩
  obtain ⟨y, hy⟩ : ∃ y, t.nodes[x.toNat]? = some y := ⟨t.nodes[x.toNat]'(by omega), by simp⟩
  have ht := ((h.link _ _ hy).1 (by rw [← at_eq hy]; exact hk)).2.1 (by omega)
  unfold TTree.times at ht
  have hr : ∀ (m : Nat) (g : TEnt), n.list[m]? = some g → g.node = x → (refsOf n.list)[m]? = some x.toNat := fun m g hm hg => by
    unfold refsOf; rw [List.getElem?_map, hm]; simp [hg]
  have hc : (refsOf n.list).count x.toNat ≤ 1 := by
    have a := refs_count_mono t x.toNat (i := i + 1) (j := t.nodes.length) (List.getElem?_eq_some_iff.1 hn).1
    rw [refs_succ hn, List.count_append] at a
    omega
  rcases Nat.lt_trichotomy j k with hlt | rfl | hlt
  · have := count_two hlt (hr j f hj hf) (hr k e hke hex); omega
  · rfl
  · have := count_two hlt (hr k e hke hex) (hr j f hj hf); omega
theorem ret_str {a b : ByteArray} {k : Int} (h : a = b) : Ending.returned (.tuple #[.string a, .int .i64 k]) = .returned (.tuple #[.string b, .int .i64 k]) := by rw [h]
def flat (l : List ByteArray) : List UInt8 := l.flatMap fun s => 47 :: s.data.toList
theorem flat_join : ∀ (l : List ByteArray), l ≠ [] → 47 :: Go.Lib.join (l.map (·.data.toList)) [47] = flat l
  | [], h => absurd rfl h
  | [x], _ => by simp only [List.map_cons, List.map_nil, join_cons1, flat, List.flatMap_cons, List.flatMap_nil, List.append_nil]
  | x :: y :: ys, _ => by
    have ih := flat_join (y :: ys) (by simp)
    rw [List.map_cons, List.map_cons, join_cons2]
    show _ = (47 :: x.data.toList) ++ flat (y :: ys)
    rw [← ih, List.map_cons]
    rfl
theorem pathOf_flat {l : List ByteArray} (h : l ≠ []) : pathOf l = flat l.reverse := by
  unfold pathOf
  exact flat_join _ (by simpa using h)
theorem data_append (a b : ByteArray) : (a ++ b).data.toList = a.data.toList ++ b.data.toList := by simp
set_option maxHeartbeats 2000000 in
set_option maxRecDepth 100000 in
theorem refPath_yes (t : TTree) (hF : t.Fits) (d : Int) (A : Option Addr) (c : Nat) (w : World) (hA : NodesAt w A t.nodes) (hd : isDirB t d = true) :
    Calls Try.prog 12 #[.agg #[.slice A t.nodes.length c, .int .i64 t.now], .int .i64 d] w fun e w' => e = .returned (.tuple #[.string ⟨(pathOf (climb t 32 d)).toArray⟩, .int .i64 0]) ∧ Below w.heap.size w w' := by
  have hD := (isDirB_iff t d).mp hd
  have HD := Lib.hid hD
  have HU := Lib.hid (hD.1.up hD.2.1 hD.2.2.1 hD.2.2.2)
  have HF := Lib.hid hF
  have HA := Lib.hid hA
  have HO := Lib.hid hd
  have h513 := hD.1.head.most
  clear hd hD hF hA
  by_cases h1 : d = 1
  · have e1 : (d == 1) = true := beq_iff_eq.2 h1
    have HP : Hid (pathOf (climb t 32 d) = [47]) := Lib.hid (by rw [h1, climb_one]; rfl)
    clear h1
    go_enter Try.func12, Try.ntmps12
    go_wp2_with (go_at_call 33; refine (refIsDir_calls t HF.out _ _ _ _ (HA.out.keep (below_alloc (Below.refl _ _) _))).mono ?_; rintro _ w1 ⟨rfl, hb1⟩; rw [HO.out]; have hbw := below_step (below_alloc (Below.refl _ _) _) hb1; clear hb1)
    go_ret2
    exact ⟨ret_str (a := ⟨#[47]⟩) (by rw [HP.out]), hbw⟩
  · have e1 : (d == 1) = false := beq_eq_false_iff_ne.2 h1
    have HC0 : Hid (climb t 32 d ≠ []) := Lib.hid (by unfold climb; rw [if_neg h1]; exact List.cons_ne_nil _ _)
    clear h1
    go_enter Try.func12, Try.ntmps12
    go_upto_region 6 with (go_at_call 33; refine (refIsDir_calls t HF.out _ _ _ _ (HA.out.keep (below_alloc (Below.refl _ _) _))).mono ?_; rintro _ w1 ⟨rfl, hb1⟩; rw [HO.out]; have k0 := cell_keep hb1 (p := ⟨w.heap.size, 0, none⟩) (v := .slice A t.nodes.length c) (by rw [World.cell?_alloc_new]; rfl); have hbw := below_step (below_alloc (Below.refl _ _) _) hb1; clear hb1)
    go_loopg [1, 6] 32 (fun g s1 s6 wr => ∃ (x : Int) (s : ByteArray), s1 = .int .i64 x ∧ s6 = .string s ∧ Hid (upB t g x = true) ∧ Hid (flat (climb t g x).reverse ++ s.data.toList = flat (climb t 32 d).reverse) ∧ s.size + g * 65 ≤ 3000 ∧ Below w.heap.size w wr ∧ wr.cell? ⟨w.heap.size, 0, none⟩ = some (.slice A t.nodes.length c))
    case atStart => exact ⟨d, _, rfl, rfl, HU, Lib.hid (by simp), by show 0 + _ ≤ _; omega, hbw, k0⟩
    case round =>
      clear k0 hbw
      obtain ⟨x, s, rfl, rfl, hu, hfl, hsz, hb, k0⟩ := hrel
      by_cases hx1 : x = 1
      · have e2 : (x != 1) = false := by simp [hx1]
        have HR : Hid (s = ⟨(pathOf (climb t 32 d)).toArray⟩) := Lib.hid (by
          have h := hfl.out
          rw [hx1, climb_one] at h
          refine str_ext ?_
          rw [pathOf_flat HC0.out, ← h]
          rfl)
        clear hx1
        go_wp2
        go_ret2
        exact ⟨ret_str (a := s) HR.out, hb⟩
      · have e2 : (x != 1) = true := by simp [hx1]
        obtain ⟨g, hg, u1, u2, u3, u4⟩ := upB_next hu.out hx1
        subst hg
        obtain ⟨y, hy⟩ : ∃ y, t.nodes[x.toNat]? = some y := ⟨t.nodes[x.toNat]'(by omega), by simp⟩
        obtain ⟨i, n, k, e, hn, hke, hex, hp, hnm, hno, huniq⟩ := nameOf_idx HD.out.1 u1 u2 u3
        have hyp : y.parent = i := by rw [← at_eq hy]; exact hp
        have hns := (nameOK_size hno).2
        obtain ⟨b, o, Dy, cdy, Ly, cly, rfl, -, -, -, -, -, -, -, -, -, -, -, -, -, y9⟩ := HA.out.get hy
        obtain ⟨b2, o2, Dn, cdn, Ln, cln, hA2, -, -, hcl, hL, -, -, -, -, -, -, -, -, n8, -⟩ := HA.out.get hn
        cases hA2
        replace y9 := cell_keep hb y9
        replace n8 := cell_keep hb n8
        rw [hyp] at y9
        have hil := (List.getElem?_eq_some_iff.1 hn).1
        have hi0 : (0 : Int) ≤ (i : Int) := by omega
        have hi1 : (i : Int) < (t.nodes.length : Int) := by omega
        have hx0 : 0 ≤ x := by omega
        have hnl := node_list_le (HD.out.1.each n (List.mem_of_getElem? hn))
        have hkl := (List.getElem?_eq_some_iff.1 hke).1
        have HL := Lib.hid hL
        have HUQ := Lib.hid huniq
        have HKE := Lib.hid hke
        have HEX := Lib.hid hex
        have HNM := Lib.hid hnm
        have HU4 := Lib.hid u4
        have HPP := Lib.hid hp
        have hclm : climb t (g + 1) x = e.name :: climb t g i := by
          conv => lhs; unfold climb
          rw [if_neg hx1, hnm, hp]
        have HCL := Lib.hid hclm
        clear hclm
        clear hx1 hu hyp hn hke hex hnm hy huniq hL u3 u4 hp hno
        go_wp2
        obtain ⟨wo, rfl⟩ : ∃ wo : World, wo = wr := ⟨_, rfl⟩
        go_loopg [6, 9] n.list.length (fun gg s6 s9 wq => ∃ (j : Nat) (s' : ByteArray), j + gg = n.list.length ∧ s9 = .int .i64 j ∧ s6 = .string s' ∧ Hid (j ≤ k → s' = s) ∧ Hid (k < j → s'.data.toList = 47 :: e.name.data.toList ++ s.data.toList) ∧ s'.size ≤ s.size + 65 ∧ Below w.heap.size w wq ∧ wq.cell? ⟨w.heap.size, 0, none⟩ = some (.slice (some ⟨b, o, none⟩) t.nodes.length c))
        case atStart => exact ⟨0, s, by omega, rfl, rfl, Lib.hid fun _ => rfl, Lib.hid fun h => absurd h (by omega), by omega, hb, k0⟩
        case round =>
          clear hb k0 y9 n8
          obtain ⟨j, s', hjg, rfl, rfl, H1, H2, hs', hb, k0⟩ := hrel
          cases gk with
          | zero =>
            obtain rfl : j = n.list.length := by omega
            go_wp2
            go_roundg g
            case measure => omega
            case rel => exact ⟨i, s', rfl, rfl, Lib.hid (by rw [← HPP.out]; exact HU4.out), Lib.hid (by
              rw [H2.out hkl, ← hfl.out, HCL.out, List.reverse_cons]
              unfold flat
              rw [List.flatMap_append]
              simp), by omega, hb, k0⟩
          | succ gg =>
            obtain ⟨f, hf⟩ : ∃ f, n.list[j]? = some f := ⟨n.list[j]'(by omega), by simp⟩
            obtain ⟨b3, o3, rfl, f0, f1⟩ := HL.out j f hf
            replace f0 := cell_keep hb f0
            replace f1 := cell_keep hb f1
            by_cases hfx : f.node = x
            · have e3 : (f.node == x) = true := beq_iff_eq.2 hfx
              have HJK := Lib.hid (HUQ.out j f hf hfx)
              have HFE : Hid (f = e) := Lib.hid (by have := HKE.out; rw [← HUQ.out j f hf hfx, hf] at this; injection this)
              have hfs : f.name.size ≤ 64 := by rw [HFE.out]; exact hns
              have hss : s'.size = s.size := by rw [H1.out (by rw [HJK.out]; exact Nat.le_refl _)]
              have HSS := Lib.hid hss
              clear hfx hf hss
              go_wp2
              go_roundg gg
              case measure => omega
              case rel =>
                refine ⟨j + 1, _, by omega, by go_num, rfl, Lib.hid fun h => absurd h (by rw [HJK.out]; omega), Lib.hid fun _ => ?_, ?_, hb, k0⟩
                · rw [H1.out (by rw [HJK.out]; exact Nat.le_refl _), HFE.out, data_append, data_append]; rfl
                · rw [ByteArray.size_append, ByteArray.size_append, HSS.out]; show 1 + _ + _ ≤ _; omega
            · have e3 : (f.node == x) = false := beq_eq_false_iff_ne.2 hfx
              have HJK : Hid (j ≠ k) := Lib.hid fun h => by have := HKE.out; rw [← h, hf] at this; injection this with this; rw [this] at hfx; exact hfx HEX.out
              clear hfx hf
              go_wp2
              go_roundg gg
              case measure => omega
              case rel => exact ⟨j + 1, s', by omega, by go_num, rfl, Lib.hid fun h => H1.out (by omega), Lib.hid fun h => H2.out (by have := HJK.out; omega), hs', hb, k0⟩
theorem refPath_no (t : TTree) (hF : t.Fits) (d : Int) (A : Option Addr) (c : Nat) (w : World) (hA : NodesAt w A t.nodes) (hd : isDirB t d = false) :
    Calls Try.prog 12 #[.agg #[.slice A t.nodes.length c, .int .i64 t.now], .int .i64 d] w fun e w' => e = .returned (.tuple #[.string ⟨#[]⟩, .int .i64 1]) ∧ Below w.heap.size w w' := by
  have HF := Lib.hid hF
  have HA := Lib.hid hA
  have HO := Lib.hid hd
  clear hd hF hA
  go_enter Try.func12, Try.ntmps12
  go_wp2_with (go_at_call 33; refine (refIsDir_calls t HF.out _ _ _ _ (HA.out.keep (below_alloc (Below.refl _ _) _))).mono ?_; rintro _ w1 ⟨rfl, hb1⟩; rw [HO.out]; have hbw := below_step (below_alloc (Below.refl _ _) _) hb1; clear hb1)
  go_ret2
  exact ⟨rfl, hbw⟩
theorem refPath_calls (t : TTree) (hF : t.Fits) (d : Int) (A : Option Addr) (c : Nat) (w : World) (hA : NodesAt w A t.nodes) :
    Calls Try.prog 12 #[.agg #[.slice A t.nodes.length c, .int .i64 t.now], .int .i64 d] w fun e w' => e = .returned (.tuple #[.string (tPath t d), .int .i64 (tPathE t d)]) ∧ Below w.heap.size w w' := by
  unfold tPath tPathE
  cases h : isDirB t d with
  | true => simp only [if_true]; exact refPath_yes t hF d A c w hA h
  | false => simp only [Bool.false_eq_true, if_false]; exact refPath_no t hF d A c w hA h
end Go.Proofs.Ytfoocjdnolplpaa
