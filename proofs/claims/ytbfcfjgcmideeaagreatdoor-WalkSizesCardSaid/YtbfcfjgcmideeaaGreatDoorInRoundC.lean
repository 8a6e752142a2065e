/- paths.In: the rounds of its loop, one part of three. -/
import Derived.Test.YtbfcfjgcmideeaaGreatDoorM5
namespace Go.Proofs.YtbfcfjgcmideeaaGreatDoor
open Go.RowKit
attribute [local go_sem] Later.cell_eq
set_option maxHeartbeats 8000000 in
set_option maxRecDepth 1000000 in
theorem in_round_c {t : TTree} {u g m d : Int} {p : ByteArray} {follow : Bool} {A : Option Addr} {c : Nat} {w : World} {R : PlaceV × Int} {Q2 : Exit → Act → World → Prop} {w3 : World} {bw b2 b1 b0 : Nat} {wr : World} {a : Int} {v : Value} {dirs : Bool} {hops gk : Nat} {J : Nat → Act → World → Prop} {K K1 : Act → World → Prop}
    {u9 u11 u12 u13 u14 u35 u36 u37 u38 u39 u40 u41 u42 u43 u44 u45 u46 u47 u48 u49 u50 u51 u52 u53 u54 u55 u56 u57 u58 u59 u60 u61 u62 u63 u64 u65 u66 u67 u68 u69 u70 u71 u72 u73 u74 u75 u76 u77 u78 u79 u80 u81 u82 u83 u84 u85 u86 u87 u88 u89 u90 u91 u92 u93 u94 u95 u96 u97 u98 u99 u100 u101 u102 u103 u104 u105 u106 u107 u108 u109 u110 u111 u112 u113 u114 u115 u116 u117 u118 u119 u120 u121 u122 u123 u124 u125 u126 u127 u128 u129 u130 u131 u132 u133 u134 u135 u136 u137 u138 u139 u140 u141 u142 u143 u144 u145 u146 u147 u148 u149 u150 u151 u152 u153 u154 u155 u156 u157 u158 u159 u160 u161 u162 u163 u164 u165 u166 u167 u168 u169 u170 u171 u172 u173 u174 u175 u176 u177 u178 u179 u180 u181 u182 u183 u184 u185 u186 u187 u188 u189 u190 u191 u192 u193 u194 u195 u196 u197 u198 u199 u200 u201 u202 u203 u204 u205 u206 u207 u208 u209 u210 u211 u212 u213 u214 u215 u216 u217 u218 u219 u220 u221 : Value}
    (HF : Hid t.Fits) (HT : Hid (TreeOK t)) (HA : Hid (NodesAt w A t.nodes)) (HQ2 : Hid (∀ e a w0, bodyPost Tryz.prog Tryz.f124 (fun e w' => e = .returned (.tuple #[R.1.val, .int .i64 R.2]) ∧ Below w.heap.size w w') e a w0 → Q2 e a w0))
    (HBW : Hid (Below w.heap.size w w3)) (HI : Hid (InBase w3 b0 b1 b2 t A c u g m d)) (hord : b0 ≠ bw ∧ b1 ≠ bw ∧ b2 ≠ bw ∧ w.heap.size ≤ b2 ∧ w.heap.size ≤ bw)
    (hK1 : ∀ (a : Act) (w : World), Code.wp Tryz.prog inTail (Exit.noGoto Q2) a w → K1 a w)
    (hJ : ∀ (k : Nat) (a' : Act) (w' : World),
    (∃ u9 u11 u12 u13 u14 u35 u36 u37 u38 u39 u40 u41 u42 u43 u44 u45 u46 u47 u48 u49 u50 u51 u52 u53 u54 u55 u56 u57
        u58 u59 u60 u61 u62 u63 u64 u65 u66 u67 u68 u69 u70 u71 u72 u73 u74 u75 u76 u77 u78 u79 u80 u81 u82 u83 u84 u85
        u86 u87 u88 u89 u90 u91 u92 u93 u94 u95 u96 u97 u98 u99 u100 u101 u102 u103 u104 u105 u106 u107 u108 u109 u110
        u111 u112 u113 u114 u115 u116 u117 u118 u119 u120 u121 u122 u123 u124 u125 u126 u127 u128 u129 u130 u131 u132
        u133 u134 u135 u136 u137 u138 u139 u140 u141 u142 u143 u144 u145 u146 u147 u148 u149 u150 u151 u152 u153 u154
        u155 u156 u157 u158 u159 u160 u161 u162 u163 u164 u165 u166 u167 u168 u169 u170 u171 u172 u173 u174 u175 u176
        u177 u178 u179 u180 u181 u182 u183 u184 u185 u186 u187 u188 u189 u190 u191 u192 u193 u194 u195 u196 u197 u198
        u199 u200 u201 u202 u203 u204 u205 u206 u207 u208 u209 u210 u211 u212 u213 u214 u215 u216 u217 u218 u219 u220
        u221,
        (∃ (a : Int) (v : Value) (rest : List (List UInt8)) (dirs : Bool) (hops : Nat),
            Hid (WayRow w' bw a v dirs ↑hops) ∧
              Hid (StrList w' bw v rest) ∧
                Hid (DirAt t a) ∧
                  Hid (inGo t u g follow k a rest dirs hops = R) ∧
                    hops ≤ 16 ∧
                      (16 - hops) * 1026 + rest.length < k ∧
                        rest.length + (16 - hops) * 1026 ≤ 20000 ∧ Hid (w3.grownBy w' (some bw))) ∧
          a' =
            {
              tmps :=
                #[Value.agg #[Value.slice A t.nodes.length c, Value.int IntKind.i64 t.now],
                  Value.agg
                    #[Value.int IntKind.i64 u, Value.int IntKind.i64 g, Value.int IntKind.i64 m,
                      Value.int IntKind.i64 d],
                  Value.string p, Value.bool follow, Value.pointer (some { block := b0, off := 0 }),
                  Value.pointer (some { block := b1, off := 0 }), undef, undef,
                  Value.pointer (some { block := b2, off := 0 }), u9, Value.pointer (some { block := bw, off := 0 }),
                  u11, u12, u13, u14, Value.bool false, Value.string p, Value.bool false, undef, Value.bool false,
                  Value.string p, Value.bool false, undef, Value.pointer (some { block := b1, off := 3 }),
                  Value.int IntKind.i64 d,
                  Value.agg #[Value.int IntKind.i64 d, Value.slice none 0 0, Value.bool false, Value.int IntKind.i64 0],
                  Value.pointer (some { block := bw, off := 0 }), Value.pointer (some { block := bw, off := 0 }),
                  Value.string p, Value.tuple #[], Value.pointer (some { block := bw, off := 0 }), Value.string p,
                  Value.bool (Lib.hasSuffix p.data.toList [47]), Value.pointer (some { block := bw, off := 0 }),
                  Value.pointer (some { block := bw, off := 2 }), u35, u36, u37, u38, u39, u40, u41, u42, u43, u44, u45,
                  u46, u47, u48, u49, u50, u51, u52, u53, u54, u55, u56, u57, u58, u59, u60, u61, u62, u63, u64, u65,
                  u66, u67, u68, u69, u70, u71, u72, u73, u74, u75, u76, u77, u78, u79, u80, u81, u82, u83, u84, u85,
                  u86, u87, u88, u89, u90, u91, u92, u93, u94, u95, u96, u97, u98, u99, u100, u101, u102, u103, u104,
                  u105, u106, u107, u108, u109, u110, u111, u112, u113, u114, u115, u116, u117, u118, u119, u120, u121,
                  u122, u123, u124, u125, u126, u127, u128, u129, u130, u131, u132, u133, u134, u135, u136, u137, u138,
                  u139, u140, u141, u142, u143, u144, u145, u146, u147, u148, u149, u150, u151, u152, u153, u154, u155,
                  u156, u157, u158, u159, u160, u161, u162, u163, u164, u165, u166, u167, u168, u169, u170, u171, u172,
                  u173, u174, u175, u176, u177, u178, u179, u180, u181, u182, u183, u184, u185, u186, u187, u188, u189,
                  u190, u191, u192, u193, u194, u195, u196, u197, u198, u199, u200, u201, u202, u203, u204, u205, u206,
                  u207, u208, u209, u210, u211, u212, u213, u214, u215, u216, u217, u218, u219, u220, u221, undef,
                  undef, undef, undef, undef, undef, undef, undef, undef, undef, undef, undef, undef],
              defers := [] }) →
      J k a' w')
    (hK : ∀ (a' : Act) (w' : World), Handed J (gk + 1) a' w' → K a' w')
    (HWR : Hid (WayRow wr bw a v dirs (hops : Int))) (HDA : Hid (DirAt t a)) (hh : hops ≤ 16) (HG : Hid (w3.grownBy wr (some bw))) (HBR : Hid (Below w.heap.size w wr)) (HIR : Hid (InBase wr b0 b1 b2 t A c u g m d))
    {s : List UInt8} {rest : List (List UInt8)} (HSL : Hid (StrList wr bw v (s :: rest))) (hrl : (s :: rest).length + (16 - hops) * 1026 ≤ 20000) (HGO : Hid (inGo t u g follow (gk + 1) a (s :: rest) dirs hops = R)) (hm : (16 - hops) * 1026 + (s :: rest).length < gk + 1)
    (HC : Hid (mayB (t.at a) u g 1 = true ∧ ¬ 64 < s.length ∧ s ≠ [46] ∧ s ≠ [46, 46])) (HD : Hid (¬ tIn t a ⟨s.toArray⟩ = 0 ∧ ¬ (t.at (tIn t a ⟨s.toArray⟩)).kind = 3)) :
    Code.wp Tryz.prog inBody (Exit.then K (Exit.inBlock 1 (Exit.then K1 (Exit.noGoto Q2))))
    {
      tmps :=
        #[Value.agg #[Value.slice A t.nodes.length c, Value.int IntKind.i64 t.now],
          Value.agg
            #[Value.int IntKind.i64 u, Value.int IntKind.i64 g, Value.int IntKind.i64 m, Value.int IntKind.i64 d],
          Value.string p, Value.bool follow, Value.pointer (some { block := b0, off := 0 }),
          Value.pointer (some { block := b1, off := 0 }), undef, undef, Value.pointer (some { block := b2, off := 0 }),
          u9, Value.pointer (some { block := bw, off := 0 }), u11, u12, u13, u14, Value.bool false, Value.string p,
          Value.bool false, undef, Value.bool false, Value.string p, Value.bool false, undef,
          Value.pointer (some { block := b1, off := 3 }), Value.int IntKind.i64 d,
          Value.agg #[Value.int IntKind.i64 d, Value.slice none 0 0, Value.bool false, Value.int IntKind.i64 0],
          Value.pointer (some { block := bw, off := 0 }), Value.pointer (some { block := bw, off := 0 }),
          Value.string p, Value.tuple #[], Value.pointer (some { block := bw, off := 0 }), Value.string p,
          Value.bool (Lib.hasSuffix p.data.toList [47]), Value.pointer (some { block := bw, off := 0 }),
          Value.pointer (some { block := bw, off := 2 }), u35, u36, u37, u38, u39, u40, u41, u42, u43, u44, u45, u46,
          u47, u48, u49, u50, u51, u52, u53, u54, u55, u56, u57, u58, u59, u60, u61, u62, u63, u64, u65, u66, u67, u68,
          u69, u70, u71, u72, u73, u74, u75, u76, u77, u78, u79, u80, u81, u82, u83, u84, u85, u86, u87, u88, u89, u90,
          u91, u92, u93, u94, u95, u96, u97, u98, u99, u100, u101, u102, u103, u104, u105, u106, u107, u108, u109, u110,
          u111, u112, u113, u114, u115, u116, u117, u118, u119, u120, u121, u122, u123, u124, u125, u126, u127, u128,
          u129, u130, u131, u132, u133, u134, u135, u136, u137, u138, u139, u140, u141, u142, u143, u144, u145, u146,
          u147, u148, u149, u150, u151, u152, u153, u154, u155, u156, u157, u158, u159, u160, u161, u162, u163, u164,
          u165, u166, u167, u168, u169, u170, u171, u172, u173, u174, u175, u176, u177, u178, u179, u180, u181, u182,
          u183, u184, u185, u186, u187, u188, u189, u190, u191, u192, u193, u194, u195, u196, u197, u198, u199, u200,
          u201, u202, u203, u204, u205, u206, u207, u208, u209, u210, u211, u212, u213, u214, u215, u216, u217, u218,
          u219, u220, u221, undef, undef, undef, undef, undef, undef, undef, undef, undef, undef, undef, undef, undef],
      defers := [] }
    wr := by
  have ht : True := (fun _ _ _ _ _ => True.intro) hK1 hK hh HBR HIR
  clear ht
  dsimp only at hJ
  have k1 := HWR.out.c1
  conv => arg 2; whnf
  conv at hK1 => enter [a, w, 1]; arg 2; whnf
  obtain ⟨xs, A0, c0, rfl, hc, -, hx, hsrc⟩ := HSL.out
  obtain ⟨x, xs, rfl⟩ : ∃ x xs', xs = x :: xs' := by
    cases xs with
    | nil => cases hx
    | cons x xs' => exact ⟨_, _, rfl⟩
  rcases hsrc with ⟨h, -⟩ | ⟨b, o, rfl, hbw, hbl, hcells⟩
  · cases h
  have hs : x.data.toList = s := (List.cons.inj hx).1
  have hxs : xs.map (·.data.toList) = rest := (List.cons.inj hx).2
  have hc0 := hcells 0 x rfl
  have HCS := Lib.hid hcells
  have HXS := Lib.hid hxs
  have HS := Lib.hid hs
  rw [Nat.add_zero] at hc0
  rw [List.length_cons] at hc hrl hm
  obtain ⟨N, hN⟩ : ∃ N, N = (x :: xs).length := ⟨_, rfl⟩
  rw [← hN] at k1 HWR
  rw [List.length_cons] at hN
  have hN0 : decide ((0 : Int) < (N : Int)) = true := decide_eq_true (by omega)
  have hN1 : 0 < N := by omega
  have hN2 : 1 ≤ N := by omega
  have hN3 : (1 : Int) ≤ (N : Int) := by omega
  have hN4 : ¬ ((N : Int) < 1) := by omega
  have hNc : N ≤ c0 := by omega
  have f1 := HWR.out.fr 1
  have hwl := HWR.out.lt
  have HN := Lib.hid hN
  clear hx hcells hxs hs HSL hN
  go_wp2
  go_cut [11] from 35 to 221 (fun s11 wx => ∃ v' : Value, s11 = .string x ∧ Hid (WayRow wx bw a v' dirs hops) ∧ Hid (StrList wx bw v' rest) ∧ Hid (w3.grownBy wx (some bw)))
  case first =>
    go_still_tail 18, (by kernel_rfl)
    change wpList _ _ _ _ _ wr.drew
    go_wp2
    all_goals go_meet
    case rel =>
      have hN5 : N - 1 = 0 := by omega
      exact ⟨_, rfl, Lib.hid ((HWR.out.s1 _).same rfl), Lib.hid (tail_list wr bw b o o 0 x xs rest _ HXS.out (by have := HN.out; omega) hbw hbl HCS.out (.inr (by have := HN.out; omega))).drew, Lib.hid (grown_trans (grown_trans HG.out (grown_set _ _ _ _)) (grown_drew _ _))⟩
    case rel =>
      exact ⟨_, rfl, Lib.hid ((HWR.out.s1 _).same rfl), Lib.hid (tail_list wr bw b o (o + 1) (N - 1) x xs rest _ HXS.out (by have := HN.out; omega) hbw hbl HCS.out (.inl rfl)).drew, Lib.hid (grown_trans (grown_trans HG.out (grown_set _ _ _ _)) (grown_drew _ _))⟩
  case rest =>
    clear k1 HWR hc hc0 hN0 hN1 hN2 hN3 hN4 hNc f1 hwl HCS HXS HN HG hbw hbl HBR HIR
    obtain ⟨v', rfl, HWR, HSL, HG⟩ := hcut
    have HBR : Hid (Below w.heap.size w wc) := Lib.hid (HBW.out.grown HG.out HBW.out.size (fun k hk => by cases hk; exact hord.2.2.2.2))
    have HIR := Lib.hid (HI.out.grown HG.out hord.1 hord.2.1 hord.2.2.1 HA.out HBW.out hord.2.2.2.2)
    have k0 := HWR.out.c0
    have k1 := HWR.out.c1
    have k2 := HWR.out.c2
    obtain ⟨N', A0, c0', rfl, HN'⟩ : ∃ N' A0 c0', v' = .slice A0 N' c0' ∧ Hid (N' = rest.length) := by
      obtain ⟨xs, A0, c0, rfl, -, -, hx, -⟩ := HSL.out
      exact ⟨_, _, _, rfl, Lib.hid (by show xs.length = rest.length; rw [← hx, List.length_map])⟩
    have hN3 : ((N' : Int) == 0) = rest.isEmpty := by
      have := HN'.out
      cases rest with
      | nil => rw [this]; rfl
      | cons y l => exact beq_eq_false_iff_ne.2 (by rw [this, List.length_cons]; omega)
    have ht0 := HIR.out.t0
    have ht1 := HIR.out.t1
    have he0 := HIR.out.e0
    have he1 := HIR.out.e1
    have he2 := HIR.out.e2
    have he3 := HIR.out.e3
    have ha0 : 0 ≤ a := by have := HDA.out.1; omega
    have ha1 : a < (t.nodes.length : Int) := HDA.out.2.1
    obtain ⟨n, hn⟩ : ∃ n, t.nodes[a.toNat]? = some n := ⟨t.nodes[a.toNat]'(by omega), by simp⟩
    have hat := at_eq hn
    have hnF := HF.out.each n (List.mem_of_getElem? hn)
    obtain ⟨bA, oA, D, cd, L, cl, rfl, -, -, -, -, x0, x1, x2, x3, x4, x5, x6, x7, x8, x9⟩ := HIR.out.nodes.get hn
    have hl0 := World.block_lt_of_cell? _ _ ht0
    have hl1 := World.block_lt_of_cell? _ _ he0
    have hlA := World.block_lt_of_cell? _ _ x0
    have hlw := HWR.out.lt
    dsimp only at hl0 hl1 hlA
    have HNF := Lib.hid hnF
    have HN := Lib.hid hn
    have HAT := Lib.hid hat
    have HN2 := HN'
    clear hn hat hnF HN'
    go_wp2
    refine wp_region_later (by kernel_rfl) (by kernel_rfl) ?_
    repeat (go_big_quiet_step ((exact Calls.later (may_calls n HNF.out D L cd cl u g m d 1 (by omega) (by omega) _))))
    refine wpQuiet_nil ?_
    intro wL hbL
    replace HWR := Lib.hid (HWR.out.keep hbL)
    replace HSL := Lib.hid (HSL.out.keep hbL)
    replace HG := Lib.hid (grown_trans HG.out (grown_below hbL _))
    replace HBR := Lib.hid (below_step HBR.out hbL)
    replace HIR := Lib.hid (HIR.out.keep hbL)
    clear k0 k1 k2 ht0 ht1 he0 he1 he2 he3 x0 x1 x2 x3 x4 x5 x6 x7 x8 x9 hl0 hl1 hlA hlw hbL
    cases hmay : mayB n u g 1 with
    | false =>
      exfalso
      have h := HC.out.1
      rw [HAT.out, hmay] at h
      cases h
    | true =>
      have HM := Lib.hid hmay
      have hxs : x.data.toList.length = x.size := Array.length_toList
      by_cases h64 : 64 < x.size
      · exact absurd (by rw [← HS.out, hxs]; exact h64) HC.out.2.1
      · have g64 : decide ((64 : Int) < (x.size : Int)) = false := decide_eq_false (by omega)
        have ht0 := HIR.out.t0
        have ht1 := HIR.out.t1
        have k0 := HWR.out.c0
        have f0 := HWR.out.fr 0
        obtain ⟨bA', oA', D', cd', L', cl', hAA, -, -, -, -, x0, x1, x2, x3, x4, x5, x6, x7, x8, x9⟩ := HIR.out.nodes.get HN.out
        cases hAA
        have hl0 := World.block_lt_of_cell? _ _ ht0
        have hlA := World.block_lt_of_cell? _ _ x0
        have hlw := HWR.out.lt
        dsimp only at hl0 hlA
        by_cases h46 : s = [46]
        · exact absurd h46 HC.out.2.2.1
        · have g46 : (x.toList == [46]) = false := by rw [ByteArray.toList_eq, HS.out]; exact beq_eq_false_iff_ne.2 h46
          by_cases h47 : s = [46, 46]
          · exact absurd h47 HC.out.2.2.2
          · have g47 : (x.toList == [46, 46]) = false := by rw [ByteArray.toList_eq, HS.out]; exact beq_eq_false_iff_ne.2 h47
            have HG4 : Hid ((mayB (t.at a) u g 1 = true) ∧ ¬ 64 < s.length ∧ s ≠ [46] ∧ s ≠ [46, 46]) := Lib.hid ⟨by rw [HAT.out, hmay], by rw [← HS.out, hxs]; exact h64, h46, h47⟩
            clear h46 h47
            go_wp2
            refine wp_region_later (by kernel_rfl) (by kernel_rfl) ?_
            repeat (go_big_quiet_step ((exact Calls.later (in_calls t HF.out HT.out.listed a x _ c _ (HIR.out.nodes.keep (Later.h _))))))
            refine wpQuiet_nil ?_
            intro wM hbM
            replace HWR := Lib.hid (HWR.out.keep hbM)
            replace HSL := Lib.hid (HSL.out.keep hbM)
            replace HG := Lib.hid (grown_trans HG.out (grown_below hbM _))
            replace HBR := Lib.hid (below_step HBR.out hbM)
            replace HIR := Lib.hid (HIR.out.keep hbM)
            clear k0 f0 ht0 ht1 x0 x1 x2 x3 x4 x5 x6 x7 x8 x9 hl0 hlA hlw hbM
            have hxk : x = ⟨s.toArray⟩ := by rw [← HS.out, bytes_back]
            obtain ⟨K, hK⟩ : ∃ K, K = tIn t a x := ⟨_, rfl⟩
            rw [← hK]
            have hKr := tIn_range HT.out a x
            rw [← hK] at hKr
            obtain ⟨hK0, hK1⟩ := hKr
            obtain ⟨y, hy⟩ : ∃ y, t.nodes[K.toNat]? = some y := ⟨t.nodes[K.toNat]'(by omega), by simp⟩
            have HKY : Hid (tIn t a ⟨s.toArray⟩ = K ∧ t.at K = y) := Lib.hid ⟨by rw [← hxk, hK], at_eq hy⟩
            have ht0 := HIR.out.t0
            obtain ⟨bA', oA', E, ce, M, cm, hAA, -, -, -, -, y0, y1, y2, y3, y4, y5, y6, y7, y8, y9⟩ := HIR.out.nodes.get hy
            cases hAA
            have HYF := Lib.hid (HF.out.each y (List.mem_of_getElem? hy))
            clear hy hK hxk
            go_upto_region 22 with fail
            have hlw := HWR.out.lt
            have HGE : Hid ((if K = 0 then (if rest = [] then ((⟨a, s, 0, dirs⟩ : PlaceV), (0 : Int)) else (noPlace, 6)) else if y.kind = 3 ∧ (rest ≠ [] ∨ follow = true ∨ dirs = true) then (if 16 < hops + 1 then (noPlace, 12) else inGo t u g follow gk (if y.target.data.toList.head? = some 47 then 1 else a) (partsOf y.target.data.toList ++ rest) (dirs || rest.isEmpty && slashEnd y.target.data.toList) (hops + 1)) else if rest = [] ∧ (y.kind ≠ 1 ∨ dirs = false) then (⟨a, s, K, dirs⟩, 0) else if y.kind ≠ 2 then (noPlace, 9) else inGo t u g follow gk K rest dirs hops) = R) := Lib.hid (by rw [← HGO.out, inGo, if_neg (c := mayB (t.at a) u g 1 = false) (by rw [HG4.out.1]; simp), if_neg (c := 64 < s.length) HG4.out.2.1, if_neg (c := s = [46]) HG4.out.2.2.1, if_neg (c := s = [46, 46]) HG4.out.2.2.2, HKY.out.1, HKY.out.2])
            have hbN : Below wM.heap.size wM (wM.alloc (.cells #[.int .u8 y.kind, .int .i64 y.mode, .int .i64 y.user, .int .i64 y.group, .int .i64 y.links, .int .i64 y.time, .slice E y.data.length ce, .string y.target, .slice M y.list.length cm, .int .i64 y.parent] 80)) := below_alloc (Below.refl _ _) _
            have hxN : (wM.alloc (.cells #[.int .u8 y.kind, .int .i64 y.mode, .int .i64 y.user, .int .i64 y.group, .int .i64 y.links, .int .i64 y.time, .slice E y.data.length ce, .string y.target, .slice M y.list.length cm, .int .i64 y.parent] 80)).heap[wM.heap.size]? = some (.cells #[.int .u8 y.kind, .int .i64 y.mode, .int .i64 y.user, .int .i64 y.group, .int .i64 y.links, .int .i64 y.time, .slice E y.data.length ce, .string y.target, .slice M y.list.length cm, .int .i64 y.parent] 80 (0, 0)) := heap_alloc_new wM _
            obtain ⟨wN, hwN⟩ : ∃ z, z = wM.alloc (.cells #[.int .u8 y.kind, .int .i64 y.mode, .int .i64 y.user, .int .i64 y.group, .int .i64 y.links, .int .i64 y.time, .slice E y.data.length ce, .string y.target, .slice M y.list.length cm, .int .i64 y.parent] 80) := ⟨_, rfl⟩
            rw [← hwN] at hbN hxN
            rw [← hwN]
            replace HWR := Lib.hid (HWR.out.keep hbN)
            replace HSL := Lib.hid (HSL.out.keep hbN)
            replace HG := Lib.hid (grown_trans HG.out (grown_below hbN _))
            replace HBR := Lib.hid (below_step HBR.out hbN)
            replace HIR := Lib.hid (HIR.out.keep hbN)
            obtain ⟨gx, hgx⟩ : ∃ z, z = wM.heap.size := ⟨_, rfl⟩
            rw [← hgx] at hxN hlw
            rw [← hgx]
            have hgb : gx ≠ bw := by omega
            have z0 := cell_of_row wN gx 0 _ _ _ hxN
            have z7 := cell_of_row wN gx 7 _ _ _ hxN
            change _ = some (Value.int .u8 y.kind) at z0
            change _ = some (Value.string y.target) at z7
            clear hwN hgx hbN hxN y0 y1 y2 y3 y4 y5 y6 y7 y8 y9 ht0 hlw HGO HG4
            have k0 := HWR.out.c0
            have k1 := HWR.out.c1
            have k2 := HWR.out.c2
            have k3 := HWR.out.c3
            have f0 := HWR.out.fr 0
            have f2 := HWR.out.fr 2
            have f3 := HWR.out.fr 3
            have hlw := HWR.out.lt
            have hlx := World.block_lt_of_cell? _ _ z0
            dsimp only at hlx
            by_cases hKz : K = 0
            · exact absurd (HKY.out.1.trans hKz) HD.out.1
            · have gK : (K == 0) = false := beq_eq_false_iff_ne.2 hKz
              have HKZ := Lib.hid hKz
              clear hKz
              go_upto_region 26 with fail
              go_cut [143] from 35 to 221 (fun s143 wx => s143 = .bool (y.kind == 3 && (!rest.isEmpty || follow || dirs)) ∧ wx = wN)
              case first =>
                clear HGE
                cases hk3 : (y.kind == 3) with
                | false =>
                  go_wp2
                  go_meet
                  exact ⟨by rw [hk3]; rfl, rfl⟩
                | true =>
                  exfalso
                  exact HD.out.2 (by rw [HKY.out.1, HKY.out.2]; exact beq_iff_eq.1 hk3)
              case rest =>
                obtain ⟨rfl, hwx⟩ := hcut
                obtain rfl : wN = _ := hwx.symm
                cases hc3 : (y.kind == 3 && (!rest.isEmpty || follow || dirs)) with
                | true =>
                  exact absurd (by rw [HKY.out.1, HKY.out.2]; exact ((cond3 _ _ _ _).1 hc3).1) HD.out.2
                | false =>
                  have HC3 : Hid (¬ (y.kind = 3 ∧ (rest ≠ [] ∨ follow = true ∨ dirs = true))) := Lib.hid (fun h => by rw [(cond3 _ _ _ _).2 h] at hc3; cases hc3)
                  go_upto_region 32 with fail
                  go_cut [192] from 35 to 221 (fun s192 wx => s192 = .bool (rest.isEmpty && (y.kind != 1 || !dirs)) ∧ wx = wN)
                  case first =>
                    clear HGE HC3
                    rcases rest with _ | ⟨r0, rest⟩
                    · cases hk1 : (y.kind != 1) with
                      | false =>
                        cases dirs
                        all_goals go_wp2
                        all_goals go_meet
                        all_goals exact ⟨by rw [hk1]; rfl, rfl⟩
                      | true =>
                        go_wp2
                        go_meet
                        exact ⟨by rw [hk1]; rfl, rfl⟩
                    · go_wp2
                      go_meet
                      exact ⟨rfl, rfl⟩
                  case rest =>
                    obtain ⟨rfl, hwx2⟩ := hcut
                    obtain rfl : wN = _ := hwx2.symm
                    cases hc1 : (rest.isEmpty && (y.kind != 1 || !dirs)) with
                    | true =>
                      obtain rfl : R = (⟨a, s, K, dirs⟩, 0) := by rw [← HGE.out, if_neg HKZ.out, if_neg HC3.out, if_pos ((cond1 _ _ _).1 hc1)]
                      have h8 : wN.drew.heap[b2]? = _ := HIR.out.pl
                      go_upto_region 33 with fail
                      go_still_tail 11, (by kernel_rfl)
                      change wpList _ _ _ _ _ wN.drew
                      go_wp2_with (refine wpList_store_rowTo rfl 114 _ _ rfl rfl b2 (#[.int .i64 a, .string x, .int .i64 K, .bool dirs]) rfl rfl 114 _ h8 (by kernel_rfl) rfl (by simp [Value.oneCell']) ?_)
                      try rw [Exit.noGoto_ret]
                      have h9 := setRow_heap _ b2 _ (#[.int .i64 a, .string x, .int .i64 K, .bool dirs]) _ _ h8
                      have hL := run_loadVar_row (P := Tryz.prog) _ _ _ 114 _ _ _ h9 Tryz.underlying114 rfl (by kernel_rfl)
                      refine HQ2.out _ _ _ ?_
                      refine bodyPost_ret (v := .tuple #[.agg (#[.int .i64 a, .string x, .int .i64 K, .bool dirs]), .int .i64 0]) (results_cell_tmp rfl rfl rfl hL) rfl ?_
                      exact ⟨by rw [← HS.out]; rfl, below_setRow HBR.out.drew hord.2.2.2.1 _⟩
                    | false =>
                      have HC1 : Hid (¬ (rest = [] ∧ (y.kind ≠ 1 ∨ dirs = false))) := Lib.hid (fun h => by rw [(cond1 _ _ _).2 h] at hc1; cases hc1)
                      by_cases h2 : y.kind = 2
                      · have g2 : (y.kind != 2) = false := by rw [h2]; rfl
                        have HGE2 : Hid (inGo t u g follow gk K rest dirs hops = R) := Lib.hid (by rw [← HGE.out, if_neg HKZ.out, if_neg HC3.out, if_neg HC1.out, if_neg (by rw [h2]; simp)])
                        have HDK : Hid (DirAt t K) := Lib.hid ⟨by have := HKZ.out; omega, hK1, by rw [HKY.out.2, h2]⟩
                        clear HGE HC3 HC1 h2
                        go_wp2
                        go_roundg gk
                        case measure => omega
                        case rel => exact ⟨K, _, rest, dirs, hops, Lib.hid (HWR.out.s0 _), Lib.hid (HSL.out.far 0 _), HDK, HGE2, hh, by omega, by omega, Lib.hid (grown_trans HG.out (grown_set _ _ _ _))⟩
                      · have g2 : (y.kind != 2) = true := bne_iff_ne.2 h2
                        obtain rfl : R = (noPlace, 9) := by rw [← HGE.out, if_neg HKZ.out, if_neg HC3.out, if_neg HC1.out, if_pos h2]
                        have h8 := HIR.out.pl
                        go_wp2_with (refine wpList_store_rowTo rfl 114 _ _ rfl rfl b2 (PlaceV.cells (noPlace)) rfl rfl 114 _ h8 (by kernel_rfl) rfl (by simp [noPlace, PlaceV.cells, Value.oneCell']) ?_)
                        try rw [Exit.noGoto_ret]
                        have h9 := setRow_heap _ b2 _ (PlaceV.cells (noPlace)) _ _ h8
                        have hL := run_loadVar_row (P := Tryz.prog) _ _ _ 114 _ _ _ h9 Tryz.underlying114 rfl (by kernel_rfl)
                        refine HQ2.out _ _ _ ?_
                        refine bodyPost_ret (v := .tuple #[PlaceV.val (noPlace), .int .i64 (9)]) (results_cell_tmp rfl rfl rfl hL) rfl ?_
                        exact ⟨rfl, below_setRow HBR.out hord.2.2.2.1 _⟩
end Go.Proofs.YtbfcfjgcmideeaaGreatDoor
