/- The law WalkNests: it answers true. -/
import Derived.Test.YtdceechakocgfaaDoorLives18
import Derived.Test.YtdceechakocgfaaDoorW5
import Derived.Test.YtdceechakocgfaaDoorW3
import Derived.BigQuiet
namespace Go.Proofs.YtdceechakocgfaaDoor
open Go.RowKit
attribute [local go_sem] Later.cell_eq max2_i min2_i max_2 min_2 max_3 min_3
theorem elem_stepN : Elem Tryd.prog 31 37 4 40 := Elem.mk' (z := .agg #[.string ⟨#[]⟩, .int .i64 0, .int .i64 0, .bool false]) Tryd.underlying31 (by kernel_rfl) rfl (by decide)
theorem elem_strN : Elem Tryd.prog 32 9 1 16 := Elem.mk' (z := .string ⟨#[]⟩) Tryd.underlying32 (by kernel_rfl) rfl (by decide)
theorem bytes_inj {a b : ByteArray} (h : a.toList = b.toList) : a = b := by
  rw [ByteArray.toList_eq, ByteArray.toList_eq] at h
  cases a with
  | mk a =>
    cases b with
    | mk b => congr 1; exact Array.toList_inj.1 h
theorem below_draws (B : Nat) (w : World) (n : Nat) : Below B w (w.drewN n) := ⟨rfl, rfl, rfl, Nat.le_refl _, fun _ _ => rfl⟩
/-- What the law's loop keeps, from world W on. -/
structure NestAt (t : TTree) (most : Int) (L : List TStep) (W : World) (i : Nat) (opn : List TStep) (seen : List ByteArray) (vo vs : Value) (wr : World) : Prop where
  run : nestRun t most (L.take i) ([], []) = some (opn, seen)
  oo : Own wr W.heap.size 37 4 vo (stepRows opn)
  os : Own wr W.heap.size 9 1 vs (pathRows seen)
  ap : ∀ k, vo.ownBlock = some k → vs.ownBlock ≠ some k
  below : Below W.heap.size W wr
theorem NestAt.keep {t : TTree} {most : Int} {L : List TStep} {W : World} {i : Nat} {opn : List TStep} {seen : List ByteArray} {vo vs : Value} {wr w' : World} (h : NestAt t most L W i opn seen vo vs wr) (hb : Below wr.heap.size wr w') : NestAt t most L W i opn seen vo vs w' :=
  ⟨h.run, h.oo.keep hb, h.os.keep hb, h.ap, below_step h.below hb⟩
set_option maxHeartbeats 4000000 in
set_option maxRecDepth 100000 in
theorem lawNests_calls (t : TTree) (hF : t.Fits) (A : Option Addr) (c : Nat) (u g m d : Int) (p : ByteArray) (dp : Int) (hp : p.size ≤ 140737488355328) (w : World) (hA : NodesAt w A t.nodes) :
    Calls Tryd.prog 3 #[.agg (wkRow A t c u g m d p dp)] w fun e w' => e = .returned (.bool true) ∧ Below w.heap.size w w' := by
  have HF := Lib.hid hF
  have HA := Lib.hid hA
  clear hF hA
  unfold wkRow
  go_enter Tryd.func3, Tryd.ntmps3
  go_upto_region 1 with fail
  obtain ⟨wa, hwa⟩ : ∃ y, y = w.alloc (.cells (wkRow A t c u g m d p dp) 28) := ⟨_, rfl⟩
  have HK : Hid (WkAt wa w.heap.size A t c u g m d p dp) := Lib.hid (by rw [hwa]; exact wkAt_of (heap_alloc_new _ _))
  have HB : Hid (Below w.heap.size w wa) := Lib.hid (by rw [hwa]; exact below_alloc (Below.refl _ _) _)
  unfold wkRow at hwa
  rw [← hwa]
  obtain ⟨bt, hbt⟩ : ∃ y, y = w.heap.size := ⟨_, rfl⟩
  rw [← hbt] at HK
  rw [← hbt]
  have HBT := Lib.hid hbt
  clear hwa hbt
  obtain ⟨x0, x1, x2, x3, x4, x5, x6, x7⟩ := HK.out
  go_upto_region 3 with (first
    | (go_at_call 6; refine (lives18_calls _).mono ?_; rintro _ w2 ⟨rfl, hb2⟩; replace HB := Lib.hid (below_step HB.out hb2); clear hb2)
    | (go_at_call 5; refine (great18_calls t HF.out u g m d dp p hp A c _ (HA.out.keep HB.out)).mono ?_; rintro _ w1 ⟨b, ⟨rfl, hgr⟩, hb1⟩; replace HK := Lib.hid (HK.out.keep hb1); replace HB := Lib.hid (below_step HB.out hb1); clear hb1 x0 x1 x2 x3 x4 x5 x6 x7; obtain ⟨x0, x1, x2, x3, x4, x5, x6, x7⟩ := HK.out; cases b))
  · have hg : t.size ≤ 60000 ∧ p.size ≤ 3000 := by simpa using hgr
    obtain ⟨R, hR⟩ : ∃ y, findS t u g m d p.data.toList false = y := ⟨_, rfl⟩
    have HR := Lib.hid hR
    have hp3 := hg.2
    clear hgr hg hR
    by_cases hz : R.2 = 0 ∧ R.1.node ≠ 0
    · have HNE : Hid (Nested t dp p (walkP t u g dp 40 R.1.node p 0).1) := Lib.hid (by obtain ⟨h1, h2, h3⟩ := findS_node HR.out hz.1; exact nested_of h1 u g dp R.1.node p h2 h3 (by omega))
      obtain ⟨L, hL⟩ : ∃ y, y = (walkP t u g dp 40 R.1.node p 0).1 := ⟨_, rfl⟩
      obtain ⟨V, hV⟩ : ∃ y, y = (walkP t u g dp 40 R.1.node p 0).2 := ⟨_, rfl⟩
      rw [← hL] at HNE
      have HZ := Lib.hid hz
      have HL := Lib.hid (And.intro hL hV)
      clear hz hL hV
      go_upto_region 4 with (go_at_call 7; refine (walk_went t HF.out u g m d dp p (by omega) A c _ (HA.out.keep HB.out) R HR.out HZ.out).mono ?_; rw [← HL.out.1, ← HL.out.2]; rintro _ w2 ⟨⟨S1, c1, V1, d1, rfl, hst⟩, hb2⟩; replace HK := Lib.hid (HK.out.keep hb2); replace HB := Lib.hid (below_step HB.out hb2); have HS := Lib.hid hst; clear hb2 hst x0 x1 x2 x3 x4 x5 x6 x7; obtain ⟨x0, x1, x2, x3, x4, x5, x6, x7⟩ := HK.out)
      have hbl := World.block_lt_of_cell? _ _ x0
      dsimp only at hbl
      have hL0 := HNE.out.len
      obtain ⟨q0, hq0⟩ := HNE.out.first
      have hLp : 0 < L.length := (List.getElem?_eq_some_iff.1 hq0).1
      have HBL := Lib.hid hbl
      clear hq0 hbl
      go_wp2
      go_loopg [6, 7, 8] L.length (fun gh s6 s7 s8 wr => ∃ (i : Nat) (opn : List TStep) (seen : List ByteArray), i + gh = L.length ∧ s8 = .int .i64 i ∧ NestAt t (max dp 0) L w2 i opn seen s6 s7 wr)
      case atStart => exact ⟨0, [], [], by omega, rfl, rfl, Own.nil _ _ _ _, Own.nil _ _ _ _, by simp [Value.ownBlock], Below.refl _ _⟩
      case round =>
        obtain ⟨i, opn, seen, hgh, rfl, hN⟩ := hrel
        have hkeep := hN.below
        have hb2 := below_step HB.out hkeep
        replace x0 := cell_keep hkeep x0
        replace x1 := cell_keep hkeep x1
        replace x2 := cell_keep hkeep x2
        replace x3 := cell_keep hkeep x3
        replace x4 := cell_keep hkeep x4
        replace x5 := cell_keep hkeep x5
        replace x6 := cell_keep hkeep x6
        replace x7 := cell_keep hkeep x7
        cases gk with
        | zero =>
          obtain rfl : i = L.length := by omega
          have hrun := hN.run
          obtain ⟨sn, hrun2⟩ := HNE.out.run
          rw [List.take_length, hrun2] at hrun
          cases hrun
          obtain ⟨n1, hf⟩ := HNE.out.first
          obtain ⟨bS, oS, rfl, s0, s1, s2, s3⟩ := HS.out 0 _ hf
          dsimp only at s0 s1 s2 s3
          rw [Nat.zero_mul, Nat.add_zero] at s0 s2
          replace s0 := cell_keep hkeep s0
          replace s2 := cell_keep hkeep s2
          obtain ⟨Ao, co, hvo⟩ := own_len hN.oo
          simp only [stepRows, List.map_nil, List.length_nil] at hvo
          subst hvo
          have hlt : decide (L.length < L.length) = false := decide_eq_false (by omega)
          have hgt : decide (0 < (L.length : Int)) = true := decide_eq_true (by omega)
          have hgt2 : decide ((L.length : Int) > 0) = true := decide_eq_true (by omega)
          have q0' := World.block_lt_of_cell? _ _ x0
          have q1' := World.block_lt_of_cell? _ _ s0
          dsimp only at q0' q1'
          have HBW := Lib.hid hb2
          clear hN hf s1 s3 hrun2 hb2 hkeep x0 x1 x2 x3 x4 x5 x7
          go_upto_region 30 with fail
          refine wp_region_later (by kernel_rfl) (by kernel_rfl) ?_
          repeat (go_big_quiet_step ((exact Calls.later (lives18_calls _))))
          refine wpQuiet_nil ?_
          intro wL hbL
          go_wp2
          go_ret
          exact ⟨rfl, below_step HBW.out hbL⟩
        | succ gg =>
          obtain ⟨x, hxi⟩ : ∃ x, L[i]? = some x := ⟨L[i]'(by omega), by simp⟩
          obtain ⟨bS, oS, rfl, s0, s1, s2, s3⟩ := HS.out i x hxi
          replace s0 := cell_keep hkeep s0
          replace s1 := cell_keep hkeep s1
          replace s2 := cell_keep hkeep s2
          replace s3 := cell_keep hkeep s3
          obtain ⟨⟨o1, e1⟩, ⟨o2, e2⟩, r1, r2, r3⟩ : ∃ s1 s2, nestRun t (max dp 0) (L.take i) ([], []) = some s1 ∧ nestStep t (max dp 0) s1 x = some s2 ∧ nestRun t (max dp 0) (L.take (i + 1)) ([], []) = some s2 := by
            obtain ⟨sn, hrun⟩ := HNE.out.run
            exact nestRun_take L _ _ hrun i x hxi
          rw [hN.run] at r1
          cases r1
          have hrg := HNE.out.range x (List.mem_of_getElem? hxi)
          have hln := nestRun_len _ _ _ hN.run
          have hti : (L.take i).length = i := by rw [List.length_take]; omega
          rw [hti] at hln
          simp only [List.length_nil, Nat.zero_add] at hln
          obtain ⟨y, hy⟩ : ∃ y, t.nodes[x.node.toNat]? = some y := ⟨t.nodes[x.node.toNat]'(by omega), by simp⟩
          obtain ⟨b, o, D, cd, Ln, cl, rfl, -, -, -, -, n0, -⟩ := (HA.out.keep hb2).get hy
          have HAT := Lib.hid (at_eq hy)
          obtain ⟨hn0, hn1⟩ := hrg
          obtain ⟨Ao, co, hvo⟩ := own_len hN.oo
          obtain ⟨As, cs, hvs⟩ := own_len hN.os
          have hl1 : (stepRows opn).length = opn.length := by simp [stepRows]
          have hl2 : (pathRows seen).length = seen.length := by simp [pathRows]
          rw [hl1] at hvo
          rw [hl2] at hvs
          subst hvo hvs
          have hd : decide (i < L.length) = true := decide_eq_true (by omega)
          have HN := Lib.hid hN
          have HR2 := Lib.hid r2
          have HR3 := Lib.hid r3
          have HXI := Lib.hid hxi
          clear hy r2 r3 hxi hN
          go_upto_region 12 with fail
          obtain ⟨wq, hwq⟩ : ∃ y, y = wr.alloc (.cells #[.string x.path, .int .i64 x.node, .int .i64 x.depth, .bool x.after] 37) := ⟨_, rfl⟩
          have hbq : Below wr.heap.size wr wq := by rw [hwq]; exact below_alloc (Below.refl _ _) _
          have hX : Bx wr.heap.size x wq := by
            have hr := heap_alloc_new wr (.cells #[.string x.path, .int .i64 x.node, .int .i64 x.depth, .bool x.after] 37)
            rw [← hwq] at hr
            exact ⟨(cell_of_row _ _ _ _ _ _ hr).trans rfl, (cell_of_row _ _ _ _ _ _ hr).trans rfl, (cell_of_row _ _ _ _ _ _ hr).trans rfl, (cell_of_row _ _ _ _ _ _ hr).trans rfl⟩
          rw [← hwq]
          have hbl2 := HN.out.oo.lt
          have hbl3 := HN.out.os.lt
          obtain ⟨bx, hbx⟩ : ∃ y, y = wr.heap.size := ⟨_, rfl⟩
          rw [← hbx] at hX hbl2 hbl3
          rw [← hbx]
          replace HN := Lib.hid (HN.out.keep hbq)
          replace x0 := cell_keep hbq x0
          replace x7 := cell_keep hbq x7
          replace n0 := cell_keep hbq n0
          obtain ⟨z0, z1, z2, z3⟩ := hX
          have HAP := Lib.hid (And.intro hbl2 hbl3)
          clear hwq hbx hbq s0 s1 s2 s3 x1 x2 x3 x4 x5 x6 hkeep hb2 hbl2 hbl3
          cases haf : x.after with
          | true =>
            have hs := HR2.out
            unfold nestStep at hs
            rw [if_pos haf] at hs
            dsimp only at hs
            cases hla : opn.getLast? with
            | none => rw [hla] at hs; cases hs
            | some q =>
              rw [hla] at hs
              dsimp only at hs
              split at hs
              · rename_i hc
                cases hs
                obtain ⟨ini, rfl⟩ : ∃ ini, opn = ini ++ [q] := by
                  rw [List.getLast?_eq_some_iff] at hla
                  exact hla
                obtain ⟨hk, hq1, hq2, hq3⟩ := hc
                rw [HAT.out] at hk
                rw [haf] at z3
                have hkd : decide (y.kind = 2) = true := decide_eq_true hk
                have hkb : (y.kind == 2) = true := beq_iff_eq.2 hk
                rw [List.dropLast_concat] at HR3
                clear hla hk
                rw [List.length_append, List.length_singleton] at hln HN ⊢
                obtain ⟨K, hK⟩ : ∃ k, k = ini.length := ⟨_, rfl⟩
                rw [← hK] at hln HN ⊢
                have hrow : (stepRows (ini ++ [q])) = stepRows ini ++ [q.cells.toList] := by simp [stepRows]
                have hrl : (stepRows ini).length = K := by simp [stepRows, hK]
                have hoo := HN.out.oo
                rw [hrow] at hoo
                obtain ⟨ga, rfl, hgl⟩ : ∃ ga, Ao = some ⟨ga, 0, none⟩ ∧ ga < wq.heap.size := by
                  rcases hoo.shape with ⟨-, h⟩ | ⟨g, cap, h, -, -, -, h5⟩
                  · simp at h
                  · simp only [Value.slice.injEq] at h; exact ⟨g, h.1, h5⟩
                have hget : (stepRows ini ++ [q.cells.toList])[K]? = some q.cells.toList := by rw [List.getElem?_append_right (by omega), hrl, Nat.sub_self]; rfl
                have a0 := hoo.cell hget (j := 0) rfl
                have a1 := hoo.cell hget (j := 1) rfl
                have a2 := hoo.cell hget (j := 2) rfl
                have a3 := hoo.cell hget (j := 3) rfl
                rw [Nat.zero_add] at a0 a1 a2 a3
                rw [Nat.add_zero] at a0
                rw [hq1] at a0
                rw [hq2] at a1
                rw [hq3] at a2
                have hco : K + 1 ≤ co := by
                  rcases hoo.shape with ⟨-, h⟩ | ⟨g, cap, h, h6, -⟩
                  · simp at h
                  · simp only [Value.slice.injEq] at h
                    rw [← h.2.2, ← h.2.1] at h6; exact h6
                have hOD := own_drop hoo
                rw [hrl] at hOD
                have HOD := Lib.hid hOD
                have hK1 : decide ((K : Int) + 1 = 0) = false := decide_eq_false (by omega)
                have hK2 : ((K : Int) + 1 == 0) = false := beq_eq_false_iff_ne.2 (by omega)
                have hK3 : decide (K + 1 = 0) = false := decide_eq_false (by omega)
                clear hoo hOD hget hrow hrl hK
                go_upto_region 17 with fail
                obtain ⟨wn, hwn⟩ : ∃ y, y = wq.alloc (.cells #[.string x.path, .int .i64 x.node, .int .i64 x.depth, .bool q.after] 37) := ⟨_, rfl⟩
                have hbn : Below wq.heap.size wq wn := by rw [hwn]; exact below_alloc (Below.refl _ _) _
                have hQ : Bx wq.heap.size ⟨x.path, x.node, x.depth, q.after⟩ wn := by
                  have hr := heap_alloc_new wq (.cells #[.string x.path, .int .i64 x.node, .int .i64 x.depth, .bool q.after] 37)
                  rw [← hwn] at hr
                  exact ⟨(cell_of_row _ _ _ _ _ _ hr).trans rfl, (cell_of_row _ _ _ _ _ _ hr).trans rfl, (cell_of_row _ _ _ _ _ _ hr).trans rfl, (cell_of_row _ _ _ _ _ _ hr).trans rfl⟩
                rw [← hwn]
                obtain ⟨bo, hbo⟩ : ∃ y, y = wq.heap.size := ⟨_, rfl⟩
                rw [← hbo] at hQ
                rw [← hbo]
                replace z0 := cell_keep hbn z0
                replace z1 := cell_keep hbn z1
                replace z2 := cell_keep hbn z2
                obtain ⟨v0, v1, v2, -⟩ := hQ
                dsimp only at v0 v1 v2
                have hNN : NestAt t (max dp 0) L w2 (i + 1) ini seen (.slice (some ⟨ga, 0, none⟩) K co) (.slice As seen.length cs) wn :=
                  ⟨HR3.out, HOD.out.keep hbn, HN.out.os.keep hbn, fun k hk => HN.out.ap k (by simpa [Value.ownBlock] using hk), below_step HN.out.below hbn⟩
                have HNN := Lib.hid hNN
                clear hNN hbn hwn hbo
                go_wp2
                go_roundg gg
                case measure => omega
                case rel => exact ⟨i + 1, ini, seen, by omega, by go_num, HNN.out⟩
              · cases hs
          | false =>
            have hs := HR2.out
            unfold nestStep at hs
            rw [if_neg (by rw [haf]; simp)] at hs
            cases hnw : nestNew (max dp 0) (opn, seen) x with
            | false => rw [hnw] at hs; simp at hs
            | true =>
              rw [hnw, if_pos rfl, HAT.out] at hs
              obtain ⟨hd1, hd2, hd3⟩ := (nestNew_iff _ _ _).1 hnw
              dsimp only at hd1 hd3
              have HS2 := Lib.hid hs
              have HD3 := Lib.hid hd3
              rw [haf] at z3
              obtain ⟨db, hdb⟩ : ∃ db, (y.kind == 2) = db := ⟨_, rfl⟩
              have hdd : decide (y.kind = 2) = db := by rw [← hdb]; rfl
              have hl3 : (x.depth != (opn.length : Int)) = false := by rw [hd1]; simp
              have hl4 : decide (max dp 0 < x.depth) = false := decide_eq_false (by omega)
              have hl5 : decide (x.depth > max dp 0) = false := hl4
              have HDB := Lib.hid hdb
              have HD1 := Lib.hid hd1
              have HAF := Lib.hid haf
              clear hs hnw hd3 haf hd1
              go_wp2
              have hq0 : Below wq.heap.size wq wq := Below.refl _ _
              go_loopg [12] seen.length (fun g2 s12 wt => ∃ k : Nat, k + g2 = seen.length ∧ s12 = .int .i64 k ∧ Below wq.heap.size wq wt)
              case atStart => exact ⟨0, by omega, rfl, hq0⟩
              case round =>
                clear hq0
                obtain ⟨k, hkg, rfl, hbt⟩ := hrel
                cases gk with
                | zero =>
                  obtain rfl : k = seen.length := by omega
                  have w0 := cell_keep hbt z0
                  have w1' := cell_keep hbt z1
                  have w2' := cell_keep hbt z2
                  have w3' := cell_keep hbt z3
                  have HN2 := Lib.hid (HN.out.keep hbt)
                  have hl6 : (pathRows seen).length = seen.length := by simp [pathRows]
                  have hW := HN2.out.below
                  have hos := HN2.out.os
                  have hoo := HN2.out.oo
                  clear HN
                  have hkd : decide (seen.length < seen.length) = false := decide_eq_false (by omega)
                  go_upto_region 28 with (at_builtin; refine wpList_append_one rfl _ _ 32 rfl elem_strN seen.length hl6 [.string x.path] rfl hos hW rfl rfl (by simp [Value.oneCell']) (by unfold maxLen; omega) (by omega) ?_; rintro _ w5 hown5 hb5 hg5 hor5 ⟨g5, c5, rfl, hc5, hg5'⟩)
                  have hT5 : Turned (fun k => (Value.slice As seen.length cs).ownBlock = some k) wr w5 := turned_grown hg5 fun k hk => hk
                  have hoo5 := hoo.turned hT5 fun k hk hs => HN2.out.ap k hk hs
                  have hbxn : ¬ (Value.slice As seen.length cs).ownBlock = some bx := fun h => by have := (HAP.out.2 bx h).2; omega
                  have u0 := turned_cell hT5 hbxn w0
                  have u1 := turned_cell hT5 hbxn w1'
                  have u2 := turned_cell hT5 hbxn w2'
                  have u3 := turned_cell hT5 hbxn w3'
                  have hbxl := World.block_lt_of_cell? _ _ z0
                  dsimp only at hbxl
                  have hbxr : bx < wr.heap.size := Nat.lt_of_lt_of_le hbxl hbt.size
                  have hap5 : ∀ k, (Value.slice Ao opn.length co).ownBlock = some k → (Value.slice (some ⟨g5, 0, none⟩) (seen.length + 1) c5).ownBlock ≠ some k := fun k hk hs => by
                    rcases hor5 with h | h
                    · rw [h] at hs; exact HN2.out.ap k hk hs
                    · rw [h] at hs
                      have := (HAP.out.1 k hk).2
                      simp only [Option.some.injEq] at hs
                      omega
                  have hsz5 : ∀ k, (Value.slice (some ⟨g5, 0, none⟩) (seen.length + 1) c5).ownBlock = some k → k < w5.heap.size := fun k hk => (hown5.lt k hk).2
                  have HT5 := Lib.hid hown5
                  have HA5 := Lib.hid (And.intro hap5 hsz5)
                  have hb52 := hb5
                  clear hown5 hg5 hor5 hap5 hsz5 hT5 hos hoo hW w0 w1' w2' w3' hbxn
                  cases db with
                  | true =>
                    have hk2 : y.kind = 2 := beq_iff_eq.1 HDB.out
                    have hr3 := HR3.out
                    have hs2 := HS2.out
                    rw [if_pos hk2] at hs2
                    cases hs2
                    have HR4 := Lib.hid hr3
                    clear hr3 hk2 HR3 HS2
                    go_wp2_with (at_builtin; refine wpList_append_one rfl _ _ 31 rfl elem_stepN opn.length hl1 [.string x.path, .int .i64 x.node, .int .i64 x.depth, .bool false] rfl hoo5 hb52 rfl rfl (by simp [Value.oneCell']) (by unfold maxLen; omega) (by omega) ?_; rintro _ w6 hown6 hb6 hg6 hor6 ⟨g6, c6, rfl, hc6, hg6'⟩)
                    go_roundg gg
                    case measure => omega
                    case rel =>
                      refine ⟨i + 1, opn ++ [x], seen ++ [x.path], by omega, by go_num, HR4.out, ?_, ?_, ?_, hb6⟩
                      · have : stepRows (opn ++ [x]) = stepRows opn ++ [[.string x.path, .int .i64 x.node, .int .i64 x.depth, .bool false]] := by simp [stepRows, TStep.cells, HAF.out]
                        rw [this]; exact hown6
                      · have : pathRows (seen ++ [x.path]) = pathRows seen ++ [[.string x.path]] := by simp [pathRows]
                        rw [this]
                        exact HT5.out.turned (turned_grown (S := fun k => (Value.slice Ao opn.length co).ownBlock = some k) hg6 fun k hk => hk) fun k hk hs => HA5.out.1 k hs hk
                      · intro k hk hs
                        rcases hor6 with h | h
                        · rw [h] at hk; exact HA5.out.1 k hk hs
                        · rw [h] at hk
                          have := HA5.out.2 k hs
                          simp only [Option.some.injEq] at hk
                          omega
                  | false =>
                    have hk2 : ¬ y.kind = 2 := beq_eq_false_iff_ne.1 HDB.out
                    have hr3 := HR3.out
                    have hs2 := HS2.out
                    rw [if_neg hk2] at hs2
                    cases hs2
                    have HR4 := Lib.hid hr3
                    clear hr3 hk2 HR3 HS2
                    go_wp2
                    go_roundg gg
                    case measure => omega
                    case rel =>
                      refine ⟨i + 1, opn, seen ++ [x.path], by omega, by go_num, HR4.out, hoo5, ?_, HA5.out.1, hb52⟩
                      have : pathRows (seen ++ [x.path]) = pathRows seen ++ [[.string x.path]] := by simp [pathRows]
                      rw [this]
                      exact HT5.out
                | succ gi =>
                  obtain ⟨sk, hsk⟩ : ∃ sk, seen[k]? = some sk := ⟨seen[k]'(by omega), by simp⟩
                  obtain ⟨gs, rfl⟩ : ∃ gs, As = some ⟨gs, 0, none⟩ := by
                    rcases HN.out.os.shape with ⟨h, h2⟩ | ⟨g, cap, h, -⟩
                    · have : seen.length = 0 := by have := congrArg List.length h2; simpa [pathRows] using this
                      omega
                    · simp only [Value.slice.injEq] at h; exact ⟨g, h.1⟩
                  have y0 := HN.out.os.cell (i := k) (r := [.string sk]) (by simp [pathRows, hsk]) (j := 0) rfl
                  simp only [Nat.zero_add, Nat.mul_one, Nat.add_zero] at y0
                  replace y0 := cell_keep hbt y0
                  have w0 := cell_keep hbt z0
                  have hne : sk ≠ x.path := fun e => HD3.out (by rw [← e]; exact List.mem_of_getElem? hsk)
                  have hne1 : (sk.toList == x.path.toList) = false := beq_eq_false_iff_ne.2 fun e => hne (bytes_inj e)
                  have hkd : decide (k < seen.length) = true := decide_eq_true (by omega)
                  have hkl : (k : Int) < (seen.length : Int) := by omega
                  have hkn : k < seen.length := by omega
                  clear hsk hne
                  go_upto_region 25 with fail
                  go_quiet (fail)
                  go_wp2
                  go_roundg gi
                  case measure => omega
                  case rel => exact ⟨k + 1, by omega, by go_num, below_step hbt (below_draws _ _ _)⟩
    · have HZ := Lib.hid hz
      clear hz
      go_upto_region 4 with (go_at_call 7; refine (walk_not t HF.out u g m d dp p (by omega) A c _ (HA.out.keep HB.out) R HR.out HZ.out).mono ?_; rintro _ w2 ⟨⟨k, hk0, rfl⟩, hb2⟩; replace HB := Lib.hid (below_step HB.out hb2); clear hb2)
      have hkd : decide (k = 0) = false := decide_eq_false hk0
      have hkb : (k != 0) = true := bne_iff_ne.2 hk0
      clear hk0
      go_wp2_with (go_at_call 6; refine (lives18_calls _).mono ?_; rintro _ w3 ⟨rfl, hb3⟩; replace HB := Lib.hid (below_step HB.out hb3); clear hb3)
      go_ret
      exact ⟨rfl, HB.out⟩
  · go_ret
    exact ⟨rfl, HB.out⟩
theorem lawNests_card (t : TTree) (hF : t.Fits) (A : Option Addr) (c : Nat) (u g m d : Int) (p : ByteArray) (dp : Int) (hX : I64 u ∧ I64 g ∧ I64 m ∧ I64 d ∧ p.size ≤ 140737488355328 ∧ I64 dp) (w : World) (hA : NodesAt w A t.nodes) :
    Calls Tryd.prog 3 #[.agg #[.slice A t.nodes.length c, .int .i64 t.now, .int .i64 u, .int .i64 g, .int .i64 m, .int .i64 d, .string p, .int .i64 dp]] w fun e w' => e = .returned (.bool true) ∧ Below w.heap.size w w' :=
  lawNests_calls t hF A c u g m d p dp hX.2.2.2.2.1 w hA
end Go.Proofs.YtdceechakocgfaaDoor
