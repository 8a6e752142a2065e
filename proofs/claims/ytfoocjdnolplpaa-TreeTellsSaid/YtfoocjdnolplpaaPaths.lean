/- TreePaths: the walk. -/
import Derived.Test.YtfoocjdnolplpaaDown
namespace Go.Proofs.Ytfoocjdnolplpaa
open Go.RowKit
attribute [local go_sem] Later.cell_eq
set_option maxHeartbeats 4000000 in
set_option maxRecDepth 100000 in
theorem paths_calls (t : TTree) (hF : t.Fits) (A : Option Addr) (c : Nat) (w : World) (hA : NodesAt w A t.nodes) :
    Calls Try.prog 4 #[.agg #[.slice A t.nodes.length c, .int .i64 t.now]] w fun e w' => e = .returned (.bool true) ∧ Below w.heap.size w w' := by
  have HF := Lib.hid hF
  have HA := Lib.hid hA
  have hn47 := hF.nodes
  clear hF hA
  cases hok : treeOK t with
  | false =>
    have HO := Lib.hid hok
    clear hok
    go_enter Try.func4, Try.ntmps4
    go_wp2_with (first
      | (go_at_call 6; refine (great_calls t HF.out A c _ (HA.out.keep (below_alloc (Below.refl _ _) _))).mono ?_; rintro _ w1 ⟨b, ⟨rfl, hbq⟩, hb1⟩; clear hbq; cases b <;> have k0 := cell_keep hb1 (p := ⟨w.heap.size, 0, none⟩) (v := .slice A t.nodes.length c) (by rw [World.cell?_alloc_new]; rfl) <;> have k1 := cell_keep hb1 (p := ⟨w.heap.size, 1, none⟩) (v := .int .i64 t.now) (by rw [World.cell?_alloc_new]; rfl) <;> have HB1 := Lib.hid (below_step (below_alloc (Below.refl _ _) _) hb1) <;> clear hb1)
      | (go_at_call 20; refine (check_calls t HF.out _ _ _ (HA.out.keep HB1.out)).mono ?_; rintro _ w2 ⟨rfl, hb2⟩; rw [HO.out]; replace k0 := cell_keep hb2 k0; replace k1 := cell_keep hb2 k1; have HB2 := Lib.hid (below_step HB1.out hb2); clear hb2)
      | (go_at_call 7; refine (lives_calls _).mono ?_; rintro _ w3 ⟨rfl, hb3⟩))
    all_goals go_ret
    all_goals first
      | exact ⟨rfl, below_step HB2.out hb3⟩
      | exact ⟨rfl, below_step HB1.out hb3⟩
  | true =>
    have HO := Lib.hid hok
    have HOK := Lib.hid (TreeOK.of hok)
    clear hok
    go_enter Try.func4, Try.ntmps4
    go_upto_region 4 with (first
      | (go_at_call 6; refine (great_calls t HF.out A c _ (HA.out.keep (below_alloc (Below.refl _ _) _))).mono ?_; rintro _ w1 ⟨b, ⟨rfl, hbq⟩, hb1⟩; clear hbq; cases b <;> have k0 := cell_keep hb1 (p := ⟨w.heap.size, 0, none⟩) (v := .slice A t.nodes.length c) (by rw [World.cell?_alloc_new]; rfl) <;> have k1 := cell_keep hb1 (p := ⟨w.heap.size, 1, none⟩) (v := .int .i64 t.now) (by rw [World.cell?_alloc_new]; rfl) <;> have HB1 := Lib.hid (below_step (below_alloc (Below.refl _ _) _) hb1) <;> clear hb1)
      | (go_at_call 20; refine (check_calls t HF.out _ _ _ (HA.out.keep HB1.out)).mono ?_; rintro _ w2 ⟨rfl, hb2⟩; rw [HO.out]; replace k0 := cell_keep hb2 k0; replace k1 := cell_keep hb2 k1; have HB2 := Lib.hid (below_step HB1.out hb2); clear hb2)
      | (go_at_call 7; refine (lives_calls _).mono ?_; rintro _ w3 ⟨rfl, hb3⟩))
    rotate_left
    · go_ret
      exact ⟨rfl, below_step HB1.out hb3⟩
    have hz2 := HOK.out.head.two
    go_loopg [3] (t.nodes.length - 1) (fun g s3 wr => ∃ i : Nat, i + g = t.nodes.length ∧ s3 = .int .i64 i ∧ 1 ≤ i ∧ Below w.heap.size w wr ∧ wr.cell? ⟨w.heap.size, 0, none⟩ = some (.slice A t.nodes.length c) ∧ wr.cell? ⟨w.heap.size, 1, none⟩ = some (.int .i64 t.now))
    case atStart => exact ⟨1, by omega, rfl, by omega, HB2.out, k0, k1⟩
    case round =>
      clear k0 k1
      obtain ⟨i, hg, rfl, hi1, hb, k0, k1⟩ := hrel
      cases gk with
      | zero =>
        obtain rfl : i = t.nodes.length := by omega
        go_wp2_with (go_at_call 7; refine (lives_calls _).mono ?_; rintro _ w4 ⟨rfl, hb4⟩)
        go_ret
        exact ⟨rfl, below_step hb hb4⟩
      | succ g =>
        obtain ⟨n, hni⟩ : ∃ n, t.nodes[i]? = some n := ⟨t.nodes[i]'(by omega), by simp⟩
        obtain ⟨b, o, D, cd, L, cl, rfl, -, -, -, -, c0, -, -, -, -, -, -, -, -, -⟩ := HA.out.get hni
        replace c0 := cell_keep hb c0
        have hbl := World.block_lt_of_cell? _ _ c0
        dsimp only at hbl
        have hw0 := World.block_lt_of_cell? _ _ k0
        dsimp only at hw0
        have HNI := Lib.hid hni
        clear hni
        cases hk : (n.kind != 2) with
        | true =>
          go_wp2
          go_roundg g
          case measure => omega
          case rel => exact ⟨i + 1, by omega, by go_num, by omega, hb, k0, k1⟩
        | false =>
          have HD : Hid (isDirB t i = true) := (isDirB_iff t i).mpr ⟨HOK.out, by omega, by omega, by rw [at_of HNI.out]; simpa using hk⟩
          have hE : tPathE t i = 0 := by unfold tPathE; rw [HD.out, if_pos rfl]
          have hP : tPath t i = ⟨(pathOf (climb t 32 i)).toArray⟩ := by unfold tPath; rw [HD.out, if_pos rfl]
          obtain ⟨p, hp⟩ : ∃ p, tPath t i = p := ⟨_, rfl⟩
          have HPL : Hid (p.data.toList = pathOf (climb t 32 i)) := by show _ = _; rw [← hp, hP]
          have hps : 0 < p.size := by
            have := congrArg List.length HPL.out
            rw [Array.length_toList, pathOf, List.length_cons] at this
            have h2 : p.size = p.data.size := rfl
            omega
          have hpe : p.toList.isEmpty = false := by rw [ByteArray.toList_eq, HPL.out]; rfl
          have hpn : ¬ (p.toList = []) := by rw [ByteArray.toList_eq, HPL.out, pathOf]; exact List.cons_ne_nil _ _
          have hp0 : (((p[0]'hps).toNat : Int) != 47) = false := by
            have := byte_at HPL.out 0 hps
            rw [pathOf] at this
            have h47 : p[0]'hps = 47 := by simpa using this.symm
            rw [h47]; rfl
          have hpm : p.size ≤ 3000 := by
            have hu := HOK.out.up (by omega) (by omega : (i : Int) < t.nodes.length) (by rw [at_of HNI.out]; simpa using hk)
            have h1 := join_le ((climb t 32 i).reverse.map (·.data.toList)) 64 (fun x hx => by
              obtain ⟨s, h1, rfl⟩ := List.mem_map.mp hx
              exact (nameOK_size (climb_small HOK.out 32 i hu s (List.mem_reverse.1 h1))).2)
            rw [List.length_map, List.length_reverse, climb_length] at h1
            have h2 := deepN_le t 32 i
            have h3 := congrArg List.length HPL.out
            rw [Array.length_toList, pathOf, List.length_cons] at h3
            have h4 : p.size = p.data.size := rfl
            omega
          have HE := Lib.hid hE
          have HPP := Lib.hid hp
          clear hE hP hp
          go_upto_region 8 with (go_at_call 11; refine (path_calls t HF.out i _ _ _ (HA.out.keep hb)).mono ?_; rintro _ w4 ⟨rfl, hb4⟩; rw [HPP.out, HE.out]; replace k0 := cell_keep hb4 k0; replace k1 := cell_keep hb4 k1; have HB4 := Lib.hid (below_step hb hb4); clear hb4 c0)
          have HU := Lib.hid (HOK.out.up (by omega) (by omega : (i : Int) < t.nodes.length) (by rw [at_of HNI.out]; simpa using hk))
          clear hk
          by_cases hp1 : p.size = 1
          · have q1 : decide (1 < p.size) = false := decide_eq_false (by omega)
            have q2 : decide ((1 : Int) < p.size) = false := decide_eq_false (by omega)
            have q4 : decide (1 ≤ p.size) = true := decide_eq_true (by omega)
            have q5 : decide ((1 : Int) ≤ p.size) = true := decide_eq_true (by omega)
            obtain ⟨ha, hm⟩ := PRel_root HOK.out HU.out HPL.out hp1
            have HM := Lib.hid hm
            have hi2 : i = 1 := by omega
            subst hi2
            clear hp1 hm ha
            go_upto_region 13 with fail
            go_wp2
            go_loopg [6, 7, 8, 9] 0 (fun _ s6 s7 s8 s9 wr2 => s6 = .int .i64 1 ∧ s7 = .int .i64 0 ∧ s8 = .int .i64 1 ∧ s9 = .int .i64 1 ∧ Below w.heap.size w wr2 ∧ wr2.cell? ⟨w.heap.size, 0, none⟩ = some (.slice (some ⟨b, o, none⟩) t.nodes.length c) ∧ wr2.cell? ⟨w.heap.size, 1, none⟩ = some (.int .i64 t.now))
            case atStart => exact ⟨rfl, rfl, rfl, rfl, HB4.out, k0, k1⟩
            case round =>
              clear k0 k1
              obtain ⟨rfl, rfl, rfl, rfl, hb6, k0, k1⟩ := hrel
              have HTD : Hid (tDepth t (1 : Nat) = (deepN t 32 (1 : Nat) : Nat)) := by show _ = _; unfold tDepth; rw [HD.out, if_pos rfl]
              go_wp2_with (go_at_call 17; refine (depth_calls t HF.out (1 : Nat) _ _ _ (HA.out.keep hb6)).mono ?_; rintro _ w7 ⟨rfl, hb7⟩; rw [HTD.out, ← HM.out]; replace k0 := cell_keep hb7 k0; replace k1 := cell_keep hb7 k1)
              go_roundg g
              case measure => omega
              case rel => exact ⟨1 + 1, by omega, by go_num, by omega, below_step hb6 hb7, k0, k1⟩
          · have q1 : decide (1 < p.size) = true := decide_eq_true (by omega)
            have q2 : decide ((1 : Int) < p.size) = true := decide_eq_true (by omega)
            have q3 : decide ((p.size : Int) > 1) = true := decide_eq_true (by omega)
            have HP1 := Lib.hid hp1
            clear hp1
            go_upto_region 13 with fail
            go_wp2
            go_loopg [6, 7, 8, 9] p.size (fun g6 s6 s7 s8 s9 wr2 => ∃ (a : Int) (many fr z : Nat), z + g6 = p.size + 1 ∧ s6 = .int .i64 a ∧ s7 = .int .i64 many ∧ s8 = .int .i64 fr ∧ s9 = .int .i64 z ∧ Hid (PRel t i p.data.toList (deepN t 32 i) a many fr z) ∧ many ≤ z ∧ 1 ≤ z ∧ Below w.heap.size w wr2 ∧ wr2.cell? ⟨w.heap.size, 0, none⟩ = some (.slice (some ⟨b, o, none⟩) t.nodes.length c) ∧ wr2.cell? ⟨w.heap.size, 1, none⟩ = some (.int .i64 t.now))
            case atStart => exact ⟨1, 0, 1, 1, by omega, rfl, rfl, rfl, rfl, PRel_start HOK.out HU.out HPL.out HP1.out, by omega, by omega, HB4.out, k0, k1⟩
            case round =>
              clear k0 k1
              obtain ⟨a, many, fr, z, hzg, rfl, rfl, rfl, rfl, hpr, hmz, hz1, hb6, k0, k1⟩ := hrel
              have hw6 := World.block_lt_of_cell? _ _ k0
              dsimp only at hw6
              have hsz : p.data.toList.length = p.size := Array.length_toList
              have HSZ := Lib.hid hsz
              clear hsz
              cases gk with
              | zero =>
                have hze : z = p.size + 1 := by omega
                obtain ⟨ha, hm⟩ := PRel_end hpr.out (by rw [HSZ.out]; omega)
                subst ha hm hze
                have w1' : decide (p.size + 1 ≤ p.size) = false := decide_eq_false (by omega)
                have w2' : decide (((p.size + 1 : Nat) : Int) ≤ p.size) = false := decide_eq_false (by omega)
                have HTD : Hid (tDepth t i = (deepN t 32 i : Nat)) := by show _ = _; unfold tDepth; rw [HD.out, if_pos rfl]
                go_wp2_with (go_at_call 17; refine (depth_calls t HF.out i _ _ _ (HA.out.keep hb6)).mono ?_; rintro _ w7 ⟨rfl, hb7⟩; rw [HTD.out]; replace k0 := cell_keep hb7 k0; replace k1 := cell_keep hb7 k1)
                go_roundg g
                case measure => omega
                case rel => exact ⟨i + 1, by omega, by go_num, by omega, below_step hb6 hb7, k0, k1⟩
              | succ g6 =>
                have hzp : z ≤ p.size := by omega
                have z1 : decide (z ≤ p.size) = true := decide_eq_true hzp
                have z2 : decide ((z : Int) ≤ p.size) = true := decide_eq_true (by omega)
                rcases PRel_step hpr.out (by rw [HSZ.out]; exact hzp) with ⟨ch, hch, hne, hnx⟩ | ⟨hor, hfz, x, hx, hnx⟩
                · have hzl : z < p.size := by have := (List.getElem?_eq_some_iff.1 hch).1; rw [HSZ.out] at this; exact this
                  have hpz : (((p[z]'hzl).toNat : Int) != 47) = true := by
                    have := byte_at rfl z hzl
                    rw [hch] at this
                    have h47 : ch = p[z]'hzl := by simpa using this
                    rw [← h47]
                    simp only [bne_iff_ne, ne_eq]
                    intro h; apply hne
                    apply UInt8.toNat_inj.1
                    have : ch.toNat = 47 := by omega
                    rw [this]; rfl
                  have HNX := Lib.hid hnx
                  clear hnx hne hch
                  go_wp2
                  go_roundg g6
                  case measure => omega
                  case rel => exact ⟨a, many, fr, z + 1, by omega, rfl, rfl, rfl, by go_num, HNX.out, by omega, by omega, hb6, k0, k1⟩
                · have HNX := Lib.hid hnx
                  have HX : Hid (p.extract fr z = x) := by
                    show _ = _
                    apply str_ext
                    rw [← hx]
                    simp
                  have HFT : Hid (tFind t a x = tIn t a x) := by show _ = _; unfold tFind; rw [HO.out, if_pos rfl]
                  clear hnx hx
                  by_cases hzl : z < p.size
                  · have hpz : (((p[z]'hzl).toNat : Int) != 47) = false := by
                      rcases hor with h | h
                      · rw [HSZ.out] at h; omega
                      · have := byte_at rfl z hzl
                        rw [h] at this
                        have h47 : p[z]'hzl = 47 := by simpa using this.symm
                        rw [h47]; rfl
                    clear hor
                    go_upto_region 17 with fail
                    refine wp_region_later (by kernel_rfl) (by kernel_rfl) ?_
                    repeat (go_big_quiet_step ((exact Calls.later (find_calls t HF.out a (p.extract fr z) _ _ _ (HA.out.keep (below_step hb6 (Later.h _)))))))
                    refine wpQuiet_nil ?_
                    intro wL hbL
                    go_wp2
                    go_roundg g6
                    case measure => omega
                    case rel => exact ⟨tIn t a x, many + 1, z + 1, z + 1, by omega, by rw [HX.out, HFT.out], by go_num, by go_num, by go_num, HNX.out, by omega, by omega, below_step hb6 hbL, cell_keep hbL k0, cell_keep hbL k1⟩
                  · have z3 : decide (z < p.size) = false := decide_eq_false hzl
                    have z4 : decide ((z : Int) < p.size) = false := decide_eq_false (by omega)
                    clear hor
                    go_upto_region 17 with fail
                    refine wp_region_later (by kernel_rfl) (by kernel_rfl) ?_
                    repeat (go_big_quiet_step ((exact Calls.later (find_calls t HF.out a (p.extract fr z) _ _ _ (HA.out.keep (below_step hb6 (Later.h _)))))))
                    refine wpQuiet_nil ?_
                    intro wL hbL
                    go_wp2
                    go_roundg g6
                    case measure => omega
                    case rel => exact ⟨tIn t a x, many + 1, z + 1, z + 1, by omega, by rw [HX.out, HFT.out], by go_num, by go_num, by go_num, HNX.out, by omega, by omega, below_step hb6 hbL, cell_keep hbL k0, cell_keep hbL k1⟩
end Go.Proofs.Ytfoocjdnolplpaa
