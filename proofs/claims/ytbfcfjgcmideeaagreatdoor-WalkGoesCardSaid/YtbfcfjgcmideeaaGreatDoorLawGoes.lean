/- WalkGoes: a walk's steps, and what is shut, are the document's; all that is answered is new memory. -/
import Derived.Test.YtbfcfjgcmideeaaGreatDoorK3
import Derived.Test.YtbfcfjgcmideeaaGreatDoorL1
import Derived.Test.YtbfcfjgcmideeaaGreatDoorW8
import Derived.Test.YtbfcfjgcmideeaaGreatDoorW5
namespace Go.Proofs.YtbfcfjgcmideeaaGreatDoor
open Go.RowKit
attribute [local go_sem] Later.cell_eq
/-- What a walk tells, whatever is found. -/
def wOut (t : TTree) (u g deepest : Int) (p : ByteArray) (R : PlaceV × Int) : List TStep × List ByteArray × Int :=
  if R.2 ≠ 0 then ([], [], R.2) else if R.1.node = 0 then ([], [], 6) else ((walkP t u g deepest 40 R.1.node p 0).1, (walkP t u g deepest 40 R.1.node p 0).2, 0)
theorem wOut_len (t : TTree) (u g m d deepest : Int) (p : ByteArray) (hp : p.size ≤ 900000) (R : PlaceV × Int) (hR : findS t u g m d p.data.toList false = R) : (wOut t u g deepest p R).1.length ≤ 1000000 ∧ (wOut t u g deepest p R).2.1.length ≤ 1000000 := by
  unfold wOut
  split
  · simp
  · rename_i h0
    have h0 : R.2 = 0 := Decidable.of_not_not h0
    split
    · simp
    · obtain ⟨hT, h1, h2⟩ := findS_node hR h0
      have := walk_lens hT u g deepest 40 R.1.node p.size p 0 (hT.fuel40 h1 h2 hp)
      dsimp only
      omega
def WOut (L : List TStep) (V : List ByteArray) (k : Int) (w : World) (e : Ending) (w' : World) : Prop :=
  ∃ Aa ca Ab cb, (e = .returned (.tuple #[.slice Aa L.length ca, .slice Ab V.length cb, .int .i64 k]) ∧ OwnX w' w.heap.size 111 4 (.slice Aa L.length ca) (stepRows L) ∧ OwnX w' w.heap.size 9 1 (.slice Ab V.length cb) (pathRows V) ∧ ∀ k, (Value.slice Aa L.length ca).ownBlock = some k → (Value.slice Ab V.length cb).ownBlock ≠ some k) ∧ Below w.heap.size w w'
def ROut (L : List TStep) (V : List ByteArray) (k : Int) (w : World) (e : Ending) (w' : World) : Prop :=
  ∃ Aa ca Ab cb, (e = .returned (.tuple #[.slice Aa L.length ca, .slice Ab V.length cb, .int .i64 k]) ∧ StepsAt w' Aa L ∧ TextsAt w' Ab V) ∧ Below w.heap.size w w'
theorem walk_out (t : TTree) (hF : t.Fits) (u g m d deepest : Int) (p : ByteArray) (hp : p.size ≤ 900000) (A : Option Addr) (c : Nat) (w : World) (hA : NodesAt w A t.nodes) (R : PlaceV × Int) (hR : findS t u g m d p.data.toList false = R) (L : List TStep) (V : List ByteArray) (k : Int) (hL : wOut t u g deepest p R = (L, V, k)) :
    Calls Tryz.prog 15 #[.agg #[.slice A t.nodes.length c, .int .i64 t.now], .agg #[.int .i64 u, .int .i64 g, .int .i64 m, .int .i64 d], .string p, .int .i64 deepest] w (WOut L V k w) := by
  refine (walk_ok t hF u g m d deepest p hp A c w hA R hR).mono ?_
  rintro e w' ⟨hw, hb⟩
  unfold wOut at hL
  rcases hw with ⟨h0, rfl⟩ | ⟨h0, h1, rfl⟩ | ⟨h0, h1, vo, vs, rfl, ho, hs, hx⟩
  · rw [if_pos h0] at hL
    cases hL
    exact ⟨none, 0, none, 0, ⟨rfl, (Own.nil _ _ _ _).x, (Own.nil _ _ _ _).x, by simp [Value.ownBlock]⟩, hb⟩
  · rw [if_neg (by rw [h0]; simp), if_pos h1] at hL
    cases hL
    exact ⟨none, 0, none, 0, ⟨rfl, (Own.nil _ _ _ _).x, (Own.nil _ _ _ _).x, by simp [Value.ownBlock]⟩, hb⟩
  · rw [if_neg (by rw [h0]; simp), if_neg h1] at hL
    obtain ⟨Ao, co, hvo⟩ := ho.len
    obtain ⟨As, cs, hvs⟩ := hs.len
    simp only [stepRows, pathRows, List.length_map] at hvo hvs
    subst hvo hvs
    cases hL
    exact ⟨Ao, co, As, cs, ⟨rfl, ho, hs, hx⟩, hb⟩
theorem refWalk_out (t : TTree) (hF : t.Fits) (u g m d deepest : Int) (p : ByteArray) (hp : p.size ≤ 900000) (A : Option Addr) (c : Nat) (w : World) (hA : NodesAt w A t.nodes) (R : PlaceV × Int) (hR : findS t u g m d p.data.toList false = R) (L : List TStep) (V : List ByteArray) (k : Int) (hL : wOut t u g deepest p R = (L, V, k)) :
    Calls Tryz.prog 16 #[.agg #[.slice A t.nodes.length c, .int .i64 t.now], .agg #[.int .i64 u, .int .i64 g, .int .i64 m, .int .i64 d], .string p, .int .i64 deepest] w (ROut L V k w) := by
  refine (refWalk_calls t hF u g m d deepest p hp A c w hA R hR).mono ?_
  rintro e w' ⟨hw, hb⟩
  unfold wOut at hL
  have hn : ∀ {α : Type} {P : α → Nat → Prop}, ∀ i x, ([] : List α)[i]? = some x → P x i := fun i x h => by simp at h
  rcases hw with ⟨h0, rfl⟩ | ⟨h0, h1, rfl⟩ | ⟨h0, h1, vo, vs, rfl, ho, hs⟩
  · rw [if_pos h0] at hL
    cases hL
    exact ⟨none, 0, none, 0, ⟨rfl, fun i x h => by simp at h, fun i x h => by simp at h⟩, hb⟩
  · rw [if_neg (by rw [h0]; simp), if_pos h1] at hL
    cases hL
    exact ⟨none, 0, none, 0, ⟨rfl, fun i x h => by simp at h, fun i x h => by simp at h⟩, hb⟩
  · rw [if_neg (by rw [h0]; simp), if_neg h1] at hL
    obtain ⟨Ao, co, hvo, -⟩ := ho.bits
    obtain ⟨As, cs, hvs, -⟩ := hs.bits
    simp only [stepRows, pathRows, List.length_map] at hvo hvs
    subst hvo hvs
    cases hL
    exact ⟨Ao, co, As, cs, ⟨rfl, ho.stepsAt.2, hs.textsAt.2⟩, hb⟩
set_option maxHeartbeats 4000000 in
set_option maxRecDepth 100000 in
theorem lawGoes_calls (t : TTree) (hF : t.Fits) (A : Option Addr) (c : Nat) (u g m d : Int) (p : ByteArray) (dp : Int) (hp : p.size ≤ 140737488355328) (w : World) (hA : NodesAt w A t.nodes) (ht : TabW w) :
    Calls Tryz.prog 3 #[.agg #[.slice A t.nodes.length c, .int .i64 t.now, .int .i64 u, .int .i64 g, .int .i64 m, .int .i64 d, .string p, .int .i64 dp]] w fun e w' => e = .returned (.bool true) ∧ Below w.heap.size w w' := by
  have HF := Lib.hid hF
  have HA := Lib.hid hA
  have HT := Lib.hid ht
  obtain ⟨R, hR⟩ : ∃ R, findS t u g m d p.data.toList false = R := ⟨_, rfl⟩
  obtain ⟨⟨L, V, k⟩, hL⟩ : ∃ X, wOut t u g dp p R = X := ⟨_, rfl⟩
  have HR := Lib.hid hR
  have HL := Lib.hid hL
  clear hF hA ht hR hL
  go_enter Tryz.func3, Tryz.ntmps3
  go_upto_region 1 with fail
  obtain ⟨wa, hwa⟩ : ∃ y, y = w.alloc (.cells (wkRow A t c u g m d p dp) 28) := ⟨_, rfl⟩
  have hBa : Below w.heap.size w wa := by rw [hwa]; exact below_alloc (Below.refl _ _) _
  have hx : WkAt wa w.heap.size A t c u g m d p dp := wkAt_of (by rw [hwa]; exact heap_alloc_new w _)
  rw [show w.alloc (.cells #[.slice A t.nodes.length c, .int .i64 t.now, .int .i64 u, .int .i64 g, .int .i64 m, .int .i64 d, .string p, .int .i64 dp] 28) = wa from hwa.symm]
  obtain ⟨b0, hb0⟩ : ∃ y, y = w.heap.size := ⟨_, rfl⟩
  have hx' : WkAt wa b0 A t c u g m d p dp := by rw [hb0]; exact hx
  rw [← hb0]
  have HX := Lib.hid hx'
  have HB := Lib.hid hBa
  obtain ⟨x0, x1, x2, x3, x4, x5, x6, x7⟩ := hx'
  clear hwa hBa hx hb0
  go_upto_region 3 with (first
    | (go_at_call 13; refine (lives18_calls _).mono ?_; rintro _ w2 ⟨rfl, hb2⟩; replace HB := Lib.hid (below_step HB.out hb2); clear hb2)
    | (go_at_call 12; refine (great18_calls t HF.out u g m d dp p hp A c _ (HA.out.keep HB.out)).mono ?_; rintro _ w1 ⟨q, ⟨rfl, hq⟩, hb1⟩; replace HX := Lib.hid (HX.out.keep hb1); replace HB := Lib.hid (below_step HB.out hb1); clear hb1 x0 x1 x2 x3 x4 x5 x6 x7; obtain ⟨x0, x1, x2, x3, x4, x5, x6, x7⟩ := HX.out; cases q))
  · obtain ⟨hsz, hp3⟩ : t.size ≤ 60000 ∧ p.size ≤ 3000 := by simpa using hq
    have hcost := TTree.cost hsz
    have hF6 : ∀ n ∈ t.nodes, n.data.length ≤ 1000000 ∧ n.list.length ≤ 1000000 := fun n hn => by have := hcost.2 n hn; omega
    have hnl : t.nodes.length ≤ 100000 := by have := hcost.1; omega
    have HF6 := Lib.hid hF6
    have hlen := wOut_len t u g m d dp p (by omega) R HR.out
    rw [HL.out] at hlen
    have HLEN := Lib.hid hlen
    clear hcost hF6 hlen hq hsz
    go_upto_region 4 with (go_at_call 14; refine (twinTree_calls t (by omega) HF6.out A c _ (HA.out.keep HB.out)).mono ?_; rintro _ w2 ⟨gt, capt, ⟨rfl, htw⟩, hb2⟩; replace HX := Lib.hid (HX.out.keep hb2); have HTW := Lib.hid htw; have HB2 := Lib.hid (below_step HB.out hb2); clear htw x0 x1 x2 x3 x4 x5 x6 x7)
    have htw := HTW.out.base_down HB.out.size
    obtain ⟨lab1, htin⟩ := htw.inn
    have HTW2 := Lib.hid htw
    have HIN := Lib.hid htin
    clear htw htin HTW
    obtain ⟨wt, hwt⟩ : ∃ y, y = w2.alloc (.cells #[.slice (some ⟨gt, 0, none⟩) t.nodes.length capt, .int .i64 t.now] 24) := ⟨_, rfl⟩
    have t0 : wt.cell? ⟨w2.heap.size, 0, none⟩ = some (.slice (some ⟨gt, 0, none⟩) t.nodes.length capt) := by rw [hwt, cell_of_row _ _ _ _ _ _ (heap_alloc_new w2 _)]; rfl
    have t1 : wt.cell? ⟨w2.heap.size, 1, none⟩ = some (.int .i64 t.now) := by rw [hwt, cell_of_row _ _ _ _ _ _ (heap_alloc_new w2 _)]; rfl
    have hBt : Below w2.heap.size w2 wt := by rw [hwt]; exact below_alloc (Below.refl _ _) _
    rw [← hwt]
    obtain ⟨bt, hbt⟩ : ∃ y, y = w2.heap.size := ⟨_, rfl⟩
    rw [← hbt] at t0 t1
    rw [← hbt]
    have HBT := Lib.hid hBt
    replace HX := Lib.hid (HX.out.keep hBt)
    clear hwt hbt hBt
    obtain ⟨x0, x1, x2, x3, x4, x5, x6, x7⟩ := HX.out
    go_upto_region 5 with (go_at_call 15; refine (walk_out t HF.out u g m d dp p (by omega) (some ⟨gt, 0, none⟩) capt _ (HTW2.out.nodes.keep HBT.out) R HR.out L V k HL.out).mono ?_; rintro _ w4 ⟨Aa, ca, Ab, cb, ⟨rfl, hoa, hob, hab⟩, hb4⟩; have HOA := Lib.hid hoa; have HOB := Lib.hid hob; have HAB := Lib.hid hab; have HB4 := Lib.hid hb4; replace HX := Lib.hid (HX.out.keep hb4); clear hoa hob hab x0 x1 x2 x3 x4 x5 x6 x7)
    replace t0 := cell_keep HB4.out t0
    replace t1 := cell_keep HB4.out t1
    have HB04 := Lib.hid (below_step (below_step HB2.out HBT.out) HB4.out)
    obtain ⟨x0, x1, x2, x3, x4, x5, x6, x7⟩ := HX.out
    go_upto_region 6 with (go_at_call 16; refine (refWalk_out t HF.out u g m d dp p (by omega) A c _ (HA.out.keep HB04.out) R HR.out L V k HL.out).mono ?_; rintro _ w5 ⟨Ac, cc, Ad, cd, ⟨rfl, hoc, hod⟩, hb5⟩; have HOC := Lib.hid hoc; have HOD := Lib.hid hod; have HB5 := Lib.hid hb5; replace HX := Lib.hid (HX.out.keep hb5); clear hoc hod x0 x1 x2 x3 x4 x5 x6 x7)
    replace t0 := cell_keep HB5.out t0
    replace t1 := cell_keep HB5.out t1
    obtain ⟨x0, x1, x2, x3, x4, x5, x6, x7⟩ := HX.out
    have hkk : (k != k) = false := by simp
    have HB25 := Lib.hid (below_step HBT.out (below_step HB4.out HB5.out))
    have HB05 := Lib.hid (below_step HB04.out HB5.out)
    go_upto_region 9 with (first
      | (go_at_call 17; refine (sameSteps_calls L HLEN.out.1 Aa Ac ca cc _ (HOA.out.rd.stepsAt.2.keep HB5.out) HOC.out).mono ?_; rintro _ w6 ⟨rfl, hb6⟩; have HB6 := Lib.hid hb6)
      | (go_at_call 18; refine (sameTexts_calls V HLEN.out.2 Ab Ad cb cd _ ((HOB.out.rd.textsAt.2.keep HB5.out).keep HB6.out) (HOD.out.keep HB6.out)).mono ?_; rintro _ w7 ⟨rfl, hb7⟩; have HB7 := Lib.hid (below_step HB6.out hb7); clear hb6; replace t0 := cell_keep HB7.out t0; replace t1 := cell_keep HB7.out t1; replace x0 := cell_keep HB7.out x0; replace x1 := cell_keep HB7.out x1)
      | (go_at_call 19; refine (leftTree_calls t (by omega) HF6.out A c _ gt capt _ (HA.out.keep (below_step HB05.out HB7.out)) (HTW2.out.keep (below_step HB25.out HB7.out))).mono ?_; rintro _ w8 ⟨rfl, hb8⟩; have HB8 := Lib.hid (below_step HB7.out hb8); replace t0 := cell_keep hb8 t0; replace t1 := cell_keep hb8 t1; clear hb7 hb8))
    obtain ⟨wk, hwk⟩ : ∃ y, y = w8.alloc (.cells #[.int .i64 0, .slice none 0 0, .slice none 0 0, .slice none 0 0, .slice none 0 0, .slice none 0 0, .slice none 0 0, .slice none 0 0, .slice none 0 0, .slice none 0 0, .slice none 0 0, .slice none 0 0, .slice none 0 0] 53) := ⟨_, rfl⟩
    have hbox := heap_alloc_new w8 (.cells #[.int .i64 0, .slice none 0 0, .slice none 0 0, .slice none 0 0, .slice none 0 0, .slice none 0 0, .slice none 0 0, .slice none 0 0, .slice none 0 0, .slice none 0 0, .slice none 0 0, .slice none 0 0, .slice none 0 0] 53)
    have hBk : Below w8.heap.size w8 wk := by rw [hwk]; exact below_alloc (Below.refl _ _) _
    rw [← hwk] at hbox
    rw [← hwk]
    obtain ⟨bk, hbk⟩ : ∃ y, y = w8.heap.size := ⟨_, rfl⟩
    rw [← hbk] at hbox
    rw [← hbk]
    replace t0 := cell_keep hBk t0
    replace t1 := cell_keep hBk t1
    have hB8 := HB8.out
    have hB5k : Below w5.heap.size w5 wk := below_step hB8 hBk
    have hB4k := below_step HB5.out hB5k
    have hB2k := below_step HBT.out (below_step HB4.out hB4k)
    have s45 := HB5.out.size
    have s58 := hB8.size
    have s24 := (below_step HBT.out HB4.out).size
    have s2t := HBT.out.size
    have hla := HOA.out.lt
    have hlb := HOB.out.lt
    obtain ⟨lab, hbi, hti, hl1, hl2, hlow, -⟩ := book_lab (j1 := 12) (j2 := 3) HIN.out hB2k HB2.out.size hbox (by omega) (fun k hk => by have := hla k hk; omega) (fun k hk => by have := hlb k hk; omega) HAB.out
    have HBI := Lib.hid hbi
    have HTI := Lib.hid hti
    have HLA := Lib.hid (And.intro (HOA.out.keep hB4k) hl1)
    have HLB := Lib.hid (And.intro (HOB.out.keep hB4k) hl2)
    have HLOW := Lib.hid hlow
    have HBK := Lib.hid (below_step HB2.out hB2k)
    have hnl2 : L.length ≤ 1000000 ∧ V.length ≤ 1000000 := HLEN.out
    clear hwk hbk hbox hBk hB8 hB5k hB4k hB2k s45 s58 s24 s2t hla hlb hbi hti hl1 hl2 hlow x0 x1 x2 x3 x4 x5 x6 x7
    have hle : w.heap.size ≤ wt.heap.size := (below_step HB2.out HBT.out).size
    go_wp2_with (first
      | (go_at_call 20; refine (treeIn_kept w _ lab bk 0 (fun _ => 0) HBI.out HBK.out t.nodes (by omega) (by decide) HF6.out (some ⟨gt, 0, none⟩) capt _ HTI.out).mono ?_; rintro _ w9 ⟨rfl, hk9⟩; obtain ⟨lab9, hu9, hi9, ho9, hm9⟩ := hk9.on HLA.out.1 HLA.out.2 (by decide); have HK9 := Lib.hid hk9; have H9 := Lib.hid (And.intro hu9 (And.intro hi9 (And.intro (ho9.down hle) hm9))); clear hk9 hu9 hi9 ho9 hm9)
      | (go_at_call 21; refine (steps_kept w _ lab9 bk _ _ H9.out.2.1 HK9.out.below (by omega) Aa _ ca _ H9.out.2.2.1 (by simp [stepRows]; omega) H9.out.2.2.2).mono ?_; rintro _ w10 ⟨rfl, hk10⟩; have hk := HK9.out.trans H9.out.1 hk10; obtain ⟨lab10, hu10, hi10, ho10, hm10⟩ := hk.on HLB.out.1 HLB.out.2 (by decide); have HK10 := Lib.hid hk; have H10 := Lib.hid (And.intro hu10 (And.intro hi10 (And.intro (ho10.down hle) hm10))); clear hk10 hk hu10 hi10 ho10 hm10)
      | (go_at_call 22; refine (texts_kept w _ lab10 bk _ _ H10.out.2.1 HK10.out.below (by omega) Ab _ cb _ H10.out.2.2.1 (by simp [pathRows]; omega) H10.out.2.2.2).mono ?_; rintro _ w11 ⟨rfl, hk11⟩; have HK11 := Lib.hid (HK10.out.trans H10.out.1 hk11); clear hk11)
      | (go_at_call 23; refine (HK11.out.apart HLOW.out HBK.out.size (by omega) HT.out).mono ?_; rintro _ w12 ⟨rfl, hb12⟩)
      | (go_at_call 13; refine (lives18_calls _).mono ?_; rintro _ w13 ⟨rfl, hb13⟩))
    go_ret
    exact ⟨rfl, below_step hb12 hb13⟩
  · go_wp2
    go_ret
    exact ⟨rfl, HB.out⟩
theorem lawGoes_card (t : TTree) (hF : t.Fits) (A : Option Addr) (c : Nat) (u g m d : Int) (p : ByteArray) (dp : Int) (hX : I64 u ∧ I64 g ∧ I64 m ∧ I64 d ∧ p.size ≤ 140737488355328 ∧ I64 dp) (w : World) (hA : NodesAt w A t.nodes) (ht : TabW w) :
    Calls Tryz.prog 3 #[.agg #[.slice A t.nodes.length c, .int .i64 t.now, .int .i64 u, .int .i64 g, .int .i64 m, .int .i64 d, .string p, .int .i64 dp]] w fun e w' => e = .returned (.bool true) ∧ Below w.heap.size w w' :=
  lawGoes_calls t hF A c u g m d p dp hX.2.2.2.2.1 w hA ht
end Go.Proofs.YtbfcfjgcmideeaaGreatDoor
