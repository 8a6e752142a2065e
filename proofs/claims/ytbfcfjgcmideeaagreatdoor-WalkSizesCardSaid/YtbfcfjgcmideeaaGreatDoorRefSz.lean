/- The document's sizes of steps: what it tells is what walk.Sizes tells. -/
import Derived.Test.YtbfcfjgcmideeaaGreatDoorW2
import Derived.Test.YtbfcfjgcmideeaaGreatDoorSz
import Derived.Test.YtbfcfjgcmideeaaGreatDoorRefCheck
import Derived.Test.YtbfcfjgcmideeaaGreatDoorRefB
namespace Go.Proofs.YtbfcfjgcmideeaaGreatDoor
open Go.RowKit
attribute [local go_sem] Later.cell_eq
def fromV : Option Nat → Int
  | none => -1
  | some j => j
def belowV (t : TTree) (l : List TStep) (xs : List Int) (x : TStep) (i : Nat) : Int := match refFrom l x i with
  | none => 0
  | some j => refSum t l xs j (i - j)
theorem path_beq (a b : ByteArray) : (a.toList == b.toList) = decide (a = b) := by
  rw [ByteArray.toList_eq, ByteArray.toList_eq]
  by_cases h : a = b
  · rw [h]; simp
  · rw [decide_eq_false h, beq_eq_false_iff_ne]
    intro e
    refine h ?_
    cases a; cases b
    simp at e
    rw [e]
theorem refFrom_no {l : List TStep} {x y : TStep} {k : Nat} (hy : l[k]? = some y) (h : ¬ likeS y x) : refFrom l x (k + 1) = refFrom l x k := by
  conv => lhs; unfold refFrom
  rw [hy]
  dsimp only
  rw [if_neg h]
theorem refFrom_yes {l : List TStep} {x y : TStep} {k : Nat} (hy : l[k]? = some y) (h : likeS y x) : refFrom l x (k + 1) = if y.after = true then none else some k := by
  conv => lhs; unfold refFrom
  rw [hy]
  dsimp only
  rw [if_pos h]
set_option maxHeartbeats 4000000 in
set_option maxRecDepth 100000 in
theorem refBelow_calls (t : TTree) (A : Option Addr) (c : Nat) (l : List TStep) (hl : l.length ≤ 900000) (S : Option Addr) (cs gO : Nat) (xs : List Int) (hxl : xs.length = l.length) (i : Nat) (x : TStep) (hx : l[i]? = some x) (_ : t.nodes.length ≤ 1000000) (w : World) (hA : NodesAt w A t.nodes) (hS : StepsAt w S l) (hO : IntRow w gO xs)
    (hB : ∀ j n, j + n ≤ i → -1000000000000 ≤ refSum t l xs j n ∧ refSum t l xs j n ≤ 1000000000000) :
    Calls Tryz.prog 112 #[.agg #[.slice A t.nodes.length c, .int .i64 t.now], .slice S l.length cs, .slice (some ⟨gO, 0, none⟩) l.length l.length, .int .i64 (i : Int)] w fun e w' => e = .returned (.int .i64 (belowV t l xs x i)) ∧ Below w.heap.size w w' := by
  have hil : i < l.length := (List.getElem?_eq_some_iff.1 hx).1
  obtain ⟨bS, oS, rfl, a0, a1, a2, a3⟩ := hS i x hx
  have HA := Lib.hid hA
  have HS := Lib.hid hS
  have HO := Lib.hid hO
  have HB := Lib.hid hB
  have HX := Lib.hid hx
  have hgl := hO.lt
  clear hA hS hO hB hx
  go_enter Tryz.func112, Tryz.ntmps112
  go_upto_region 1 with fail
  obtain ⟨wa, hwa⟩ : ∃ y, y = w.alloc (.cells #[.slice A t.nodes.length c, .int .i64 t.now] 24) := ⟨_, rfl⟩
  have hBa : Below w.heap.size w wa := by rw [hwa]; exact below_alloc (Below.refl _ _) _
  have t0 : wa.cell? ⟨w.heap.size, 0, none⟩ = some (.slice A t.nodes.length c) := by rw [hwa, cell_of_row _ _ _ _ _ _ (heap_alloc_new w _)]; rfl
  rw [← hwa]
  obtain ⟨bt, hbt⟩ : ∃ y, y = w.heap.size := ⟨_, rfl⟩
  rw [← hbt] at t0
  rw [← hbt]
  replace a0 := cell_keep hBa a0
  replace a1 := cell_keep hBa a1
  replace a2 := cell_keep hBa a2
  replace a3 := cell_keep hBa a3
  have HBa := Lib.hid hBa
  clear hwa hbt hBa
  go_wp2
  go_loopg [9, 10] i (fun g s9 s10 wr => ∃ k : Nat, k + g = i ∧ s10 = .int .i64 k ∧ s9 = .int .i64 (fromV (refFrom l x k)) ∧ Below wa.heap.size wa wr)
  case atStart => exact ⟨0, by omega, rfl, rfl, Below.refl _ _⟩
  case round =>
    obtain ⟨k, hkg, rfl, rfl, hb⟩ := hrel
    replace t0 := cell_keep hb t0
    replace a0 := cell_keep hb a0
    replace a1 := cell_keep hb a1
    replace a2 := cell_keep hb a2
    replace a3 := cell_keep hb a3
    cases gk with
    | zero =>
      obtain rfl : k = i := by omega
      have hBw := below_step HBa.out hb
      have HBW := Lib.hid hBw
      cases hf : refFrom l x k with
      | none =>
        have HF := Lib.hid hf
        clear hf
        dsimp only [fromV]
        go_wp2
        go_ret
        unfold belowV
        rw [HF.out]
        exact ⟨rfl, HBW.out⟩
      | some j =>
        have hj := refFrom_lt x hf
        have HF := Lib.hid hf
        clear hf hBw
        dsimp only [fromV]
        have hj0 : decide ((j : Int) < 0) = false := decide_eq_false (by omega)
        go_wp2
        go_loopg [11, 12, 13] (k - j) (fun g s11 s12 s13 wi => ∃ n : Nat, n + g = k - j ∧ s12 = .int .i64 ((j + n : Nat) : Int) ∧ s11 = .int .i64 (refSum t l xs j n) ∧ Below wr.heap.size wr wi)
        case atStart => exact ⟨0, by omega, rfl, rfl, Below.refl _ _⟩
        case round =>
          obtain ⟨n, hng, rfl, rfl, hbi⟩ := hrel
          replace t0 := cell_keep hbi t0
          cases gk with
          | zero =>
            obtain rfl : n = k - j := by omega
            have hlt : decide (((j + (k - j) : Nat) : Int) < (k : Int)) = false := decide_eq_false (by omega)
            go_wp2
            go_ret
            unfold belowV
            rw [HF.out]
            exact ⟨rfl, below_step HBW.out hbi⟩
          | succ gg =>
            obtain ⟨y, hy⟩ : ∃ y, l[j + n]? = some y := ⟨l[j + n]'(by omega), by simp⟩
            have hBwi := below_step HBW.out hbi
            obtain ⟨b', o', hA', y0, y1, y2, y3⟩ := HS.out (j + n) y hy
            cases hA'
            replace y1 := cell_keep hBwi y1
            have hor := HO.out.keep hBwi
            have c0 := hor.cell (j + n) (by omega)
            obtain ⟨xv, hxv⟩ : ∃ v, v = xs.getD (j + n) 0 := ⟨_, rfl⟩
            rw [← hxv] at c0
            have hs0 := HB.out j n (by omega)
            have hs1 := HB.out j (n + 1) (by omega)
            have hlt : decide (((j + n : Nat) : Int) < (k : Int)) = true := decide_eq_true (by omega)
            have hjn : j + n < l.length := by omega
            have hjn2 : ((j + n : Nat) : Int) < (l.length : Int) := by omega
            have hsum : refSum t l xs j (n + 1) = refSum t l xs j n + refPart t l xs (j + n) := rfl
            have HY := Lib.hid hy
            have HSM := Lib.hid hsum
            have HXV := Lib.hid hxv
            clear hy y0 y2 y3 hor hsum hxv
            by_cases hp : 1 ≤ y.node ∧ y.node < (t.nodes.length : Int) ∧ (t.at y.node).kind ≠ 2
            · obtain ⟨h1, h2, h3⟩ := hp
              obtain ⟨z, hz⟩ : ∃ z, t.nodes[y.node.toNat]? = some z := ⟨t.nodes[y.node.toNat]'(by omega), by simp⟩
              obtain ⟨b, o, D, cd, L, cl, rfl, -, -, -, -, n0, -⟩ := HA.out.get hz
              replace n0 := cell_keep hBwi n0
              rw [at_eq hz] at h3
              have hpart : refPart t l xs (j + n) = xv := by
                rw [HXV.out]
                unfold refPart
                rw [HY.out]
                dsimp only
                rw [if_pos ⟨h1, h2, by rw [at_eq hz]; exact h3⟩]
              have hrng := HSM.out
              rw [hpart] at hrng
              have HRN := Lib.hid hrng
              have hs2 : -1000000000000 ≤ refSum t l xs j n + xv ∧ refSum t l xs j n + xv ≤ 1000000000000 := by omega
              have hwrap : IntKind.i64.wrap (refSum t l xs j n + xv) = refSum t l xs j n + xv := IntWalk.i64_in _ (by omega)
              have hd1 : decide (1 ≤ y.node) = true := decide_eq_true h1
              have hd1' : decide (y.node ≥ 1) = true := decide_eq_true h1
              have hd2 : decide (y.node < (t.nodes.length : Int)) = true := decide_eq_true h2
              have hd3 : decide (z.kind = 2) = false := decide_eq_false h3
              have hd3b : (z.kind == 2) = false := beq_eq_false_iff_ne.2 h3
              have hd3c : (z.kind != 2) = true := by rw [bne, hd3b]; rfl
              have hn0 : 0 ≤ y.node := by omega
              have hnn : ((y.node.toNat : Nat) : Int) = y.node := by omega
              have hBI := Lib.hid hbi
              clear hz hrng hpart h3 hs0 hs1 hbi hBwi
              go_wp2
              go_roundg gg
              case measure => omega
              case rel => exact ⟨n + 1, by omega, by go_num, by rw [HRN.out], hBI.out⟩
            · have hpart : refPart t l xs (j + n) = 0 := by
                unfold refPart
                rw [HY.out]
                dsimp only
                rw [if_neg hp]
              have hrng := HSM.out
              rw [hpart, Int.add_zero] at hrng
              have HRN := Lib.hid hrng
              have hBI := Lib.hid hbi
              by_cases h1 : 1 ≤ y.node
              · have hd1 : decide (1 ≤ y.node) = true := decide_eq_true h1
                have hd1' : decide (y.node ≥ 1) = true := decide_eq_true h1
                by_cases h2 : y.node < (t.nodes.length : Int)
                · have h3 : (t.at y.node).kind = 2 := Decidable.byContradiction fun a => hp ⟨h1, h2, a⟩
                  obtain ⟨z, hz⟩ : ∃ z, t.nodes[y.node.toNat]? = some z := ⟨t.nodes[y.node.toNat]'(by omega), by simp⟩
                  obtain ⟨b, o, D, cd, L, cl, rfl, -, -, -, -, n0, -⟩ := HA.out.get hz
                  replace n0 := cell_keep hBwi n0
                  rw [at_eq hz] at h3
                  have hd2 : decide (y.node < (t.nodes.length : Int)) = true := decide_eq_true h2
                  have hd3 : decide (z.kind = 2) = true := decide_eq_true h3
                  have hd3b : (z.kind == 2) = true := beq_iff_eq.2 h3
                  have hd3c : (z.kind != 2) = false := by rw [bne, hd3b]; rfl
                  have hn0 : 0 ≤ y.node := by omega
                  have hnn : ((y.node.toNat : Nat) : Int) = y.node := by omega
                  clear hz hrng hpart h3 hs0 hs1 hp hbi hBwi
                  go_wp2
                  go_roundg gg
                  case measure => omega
                  case rel => exact ⟨n + 1, by omega, by go_num, by rw [HRN.out], hBI.out⟩
                · have hd2 : decide (y.node < (t.nodes.length : Int)) = false := decide_eq_false h2
                  clear hrng hpart hs0 hs1 hp hbi hBwi
                  go_wp2
                  go_roundg gg
                  case measure => omega
                  case rel => exact ⟨n + 1, by omega, by go_num, by rw [HRN.out], hBI.out⟩
              · have hd1 : decide (1 ≤ y.node) = false := decide_eq_false h1
                have hd1' : decide (y.node ≥ 1) = false := decide_eq_false h1
                clear hrng hpart hs0 hs1 hp hbi hBwi
                go_wp2
                go_roundg gg
                case measure => omega
                case rel => exact ⟨n + 1, by omega, by go_num, by rw [HRN.out], hBI.out⟩
    | succ gg =>
      obtain ⟨y, hy⟩ : ∃ y, l[k]? = some y := ⟨l[k]'(by omega), by simp⟩
      obtain ⟨b', o', hA', y0, y1, y2, y3⟩ := HS.out k y hy
      cases hA'
      have hBw := below_step HBa.out hb
      replace y0 := cell_keep hBw y0
      replace y1 := cell_keep hBw y1
      replace y2 := cell_keep hBw y2
      replace y3 := cell_keep hBw y3
      have HY := Lib.hid hy
      have HBI := Lib.hid hb
      have hbl := World.block_lt_of_cell? _ _ y0
      dsimp only at hbl
      have hk1 : k < l.length := by omega
      have hk2 : (k : Int) < (l.length : Int) := by omega
      have hi2 : (i : Int) < (l.length : Int) := by omega
      have hlt : decide ((k : Int) < (i : Int)) = true := decide_eq_true (by omega)
      obtain ⟨fv, hfv⟩ : ∃ v, v = fromV (refFrom l x k) := ⟨_, rfl⟩
      rw [← hfv]
      have HFV := Lib.hid hfv
      clear hy hb hBw hfv
      go_upto_region 5 with fail
      by_cases q1 : y.node = x.node
      · have d1 : decide (y.node = x.node) = true := decide_eq_true q1
        have d1b : (y.node == x.node) = true := beq_iff_eq.2 q1
        by_cases q2 : y.path = x.path
        · have d2 : decide (y.path = x.path) = true := decide_eq_true q2
          have d2b : (y.path.toList == x.path.toList) = true := by rw [path_beq]; exact decide_eq_true q2
          by_cases q3 : y.depth = x.depth
          · have d3 : decide (y.depth = x.depth) = true := decide_eq_true q3
            have d3b : (y.depth == x.depth) = true := beq_iff_eq.2 q3
            cases haf : y.after with
            | true =>
              have HAF := Lib.hid haf
              rw [haf] at y3
              clear haf
              refine wp_region_later (by kernel_rfl) (by kernel_rfl) ?_
              repeat (go_big_quiet_step (fail))
              refine wpQuiet_nil ?_
              intro wL hbL
              replace y3 := cell_keep hbL y3
              have hye := refFrom_yes (x := x) HY.out ⟨q1, q2, q3⟩
              rw [HAF.out] at hye
              have HYE := Lib.hid hye
              clear hye
              go_wp2
              go_roundg gg
              case measure => omega
              case rel => exact ⟨k + 1, by omega, by go_num, by rw [HYE.out]; rfl, below_step HBI.out hbL⟩
            | false =>
              have HAF := Lib.hid haf
              rw [haf] at y3
              clear haf
              refine wp_region_later (by kernel_rfl) (by kernel_rfl) ?_
              repeat (go_big_quiet_step (fail))
              refine wpQuiet_nil ?_
              intro wL hbL
              replace y3 := cell_keep hbL y3
              have hye := refFrom_yes (x := x) HY.out ⟨q1, q2, q3⟩
              rw [HAF.out] at hye
              have HYE := Lib.hid hye
              clear hye
              go_wp2
              go_roundg gg
              case measure => omega
              case rel => exact ⟨k + 1, by omega, by go_num, by rw [HYE.out]; rfl, below_step HBI.out hbL⟩
          · have d3 : decide (y.depth = x.depth) = false := decide_eq_false q3
            have d3b : (y.depth == x.depth) = false := beq_eq_false_iff_ne.2 q3
            refine wp_region_later (by kernel_rfl) (by kernel_rfl) ?_
            repeat (go_big_quiet_step (fail))
            refine wpQuiet_nil ?_
            intro wL hbL
            have hno := refFrom_no (x := x) HY.out (fun a => q3 a.2.2)
            have HNO := Lib.hid hno
            clear hno
            go_wp2
            go_roundg gg
            case measure => omega
            case rel => exact ⟨k + 1, by omega, by go_num, by rw [HNO.out, HFV.out], below_step HBI.out hbL⟩
        · have d2 : decide (y.path = x.path) = false := decide_eq_false q2
          have d2b : (y.path.toList == x.path.toList) = false := by rw [path_beq]; exact decide_eq_false q2
          refine wp_region_later (by kernel_rfl) (by kernel_rfl) ?_
          repeat (go_big_quiet_step (fail))
          refine wpQuiet_nil ?_
          intro wL hbL
          have hno := refFrom_no (x := x) HY.out (fun a => q2 a.2.1)
          have HNO := Lib.hid hno
          clear hno
          go_wp2
          go_roundg gg
          case measure => omega
          case rel => exact ⟨k + 1, by omega, by go_num, by rw [HNO.out, HFV.out], below_step HBI.out hbL⟩
      · have d1 : decide (y.node = x.node) = false := decide_eq_false q1
        have d1b : (y.node == x.node) = false := beq_eq_false_iff_ne.2 q1
        refine wp_region_later (by kernel_rfl) (by kernel_rfl) ?_
        repeat (go_big_quiet_step (fail))
        refine wpQuiet_nil ?_
        intro wL hbL
        have hno := refFrom_no (x := x) HY.out (fun a => q1 a.1)
        have HNO := Lib.hid hno
        clear hno
        go_wp2
        go_roundg gg
        case measure => omega
        case rel => exact ⟨k + 1, by omega, by go_num, by rw [HNO.out, HFV.out], below_step HBI.out hbL⟩
/-- What the document's sizes keep. -/
structure RZ (w0 : World) (A : Option Addr) (N c : Nat) (now : Int) (bt gO : Nat) (xs : List Int) (w : World) : Prop where
  t0 : w.cell? ⟨bt, 0, none⟩ = some (.slice A N c)
  t1 : w.cell? ⟨bt, 1, none⟩ = some (.int .i64 now)
  out : IntRow w gO xs
  below : Below w0.heap.size w0 w
  ne : w0.heap.size ≤ gO ∧ bt ≠ gO
theorem RZ.keep {w0 : World} {A : Option Addr} {N c : Nat} {now : Int} {bt gO : Nat} {xs : List Int} {w w' : World} (h : RZ w0 A N c now bt gO xs w) (hb : Below w.heap.size w w') : RZ w0 A N c now bt gO xs w' :=
  ⟨cell_keep hb h.t0, cell_keep hb h.t1, h.out.keep hb, below_step h.below hb, h.ne⟩
theorem RZ.set_ {w0 : World} {A : Option Addr} {N c : Nat} {now : Int} {bt gO : Nat} {xs : List Int} {w : World} (h : RZ w0 A N c now bt gO xs w) (i : Nat) (v : Int) : RZ w0 A N c now bt gO (xs.set i v) (w.setCell ⟨gO, i, none⟩ (.int .i64 v)) := by
  have hT : Turned (fun k => k = gO) w (w.setCell ⟨gO, i, none⟩ (.int .i64 v)) := turned_set w gO i _ rfl
  exact ⟨turned_cell hT h.ne.2 h.t0, turned_cell hT h.ne.2 h.t1, h.out.set_ i v, h.below.setCell (by dsimp only; exact h.ne.1) _, h.ne⟩
theorem getD_front {o r : List Int} {k : Nat} (h : k < o.length) : (o ++ r).getD k 0 = o.getD k 0 := by
  rw [List.getD_eq_getElem?_getD, List.getD_eq_getElem?_getD, List.getElem?_append_left h]
theorem getD_mid {o r : List Int} {v : Int} {k : Nat} (h : o.length = k) : (o ++ [v] ++ r).getD k 0 = v := by
  rw [List.append_assoc, List.getD_eq_getElem?_getD, List.getElem?_append_right (by omega), h, Nat.sub_self]; rfl
theorem take_all {l : List TStep} {k : Nat} {y x : TStep} (hy : l[k]? = some y) : (∀ z ∈ l.take (k + 1), z.node ≠ x.node) ↔ (∀ z ∈ l.take k, z.node ≠ x.node) ∧ y.node ≠ x.node := by
  rw [List.take_add_one, hy]
  constructor
  · intro h
    exact ⟨fun z hz => h z (by simp [hz]), h y (by simp)⟩
  · rintro ⟨h1, h2⟩ z hz
    rcases List.mem_append.1 hz with hz | hz
    · exact h1 z hz
    · simp at hz; rw [hz]; exact h2
set_option maxHeartbeats 4000000 in
set_option maxRecDepth 100000 in
theorem refSz_calls (t : TTree) (hF : t.Fits) (A : Option Addr) (c : Nat) (w : World) (hA : NodesAt w A t.nodes) (hn47 : t.nodes.length ≤ 1000000) (l : List TStep) (hl : l.length ≤ 900000) (S : Option Addr) (cs : Nat) (hS : StepsAt w S l) :
    Calls Tryz.prog 28 #[.agg #[.slice A t.nodes.length c, .int .i64 t.now], .slice S l.length cs] w fun e w' => ∃ g, (e = .returned (.slice (some ⟨g, 0, none⟩) l.length l.length) ∧ w.heap.size ≤ g ∧ IntRow w' g (szOut t l)) ∧ Below w.heap.size w w' := by
  have HF := Lib.hid hF
  have HA := Lib.hid hA
  have HS := Lib.hid hS
  have hmk := make_ints l.length (by omega)
  clear hF hA hS
  go_enter Tryz.func28, Tryz.ntmps28
  go_upto_region 2 with fail
  obtain ⟨wa, hwa⟩ : ∃ y, y = (w.alloc (.cells #[.slice A t.nodes.length c, .int .i64 t.now] 24)).alloc (.cells (Array.replicate l.length (.int .i64 0)) 3) := ⟨_, rfl⟩
  have hba : Below w.heap.size w wa := by rw [hwa]; exact below_alloc (below_alloc (Below.refl _ _) _) _
  have t0 : wa.cell? ⟨w.heap.size, 0, none⟩ = some (.slice A t.nodes.length c) := by rw [hwa]; simp [go_sem]
  have t1 : wa.cell? ⟨w.heap.size, 1, none⟩ = some (.int .i64 t.now) := by rw [hwa]; simp [go_sem]
  have hra : IntRow wa (w.heap.size + 1) (List.replicate l.length 0) := by rw [hwa]; exact intRow_made _ _ _ (by simp)
  rw [← hwa]
  clear hwa hmk
  obtain ⟨gO, hgO⟩ : ∃ y, y = w.heap.size + 1 := ⟨_, rfl⟩
  rw [← hgO] at hra
  rw [← hgO]
  obtain ⟨bt, hbt⟩ : ∃ y, y = w.heap.size := ⟨_, rfl⟩
  rw [← hbt] at t0 t1
  rw [← hbt]
  have HZa : Hid (RZ w A t.nodes.length c t.now bt gO (List.replicate l.length 0) wa) := Lib.hid ⟨t0, t1, hra, hba, by omega, by omega⟩
  clear hgO hbt hra hba
  cases hok : treeOK t with
  | false =>
    have HO := Lib.hid hok
    clear hok
    go_wp2_with (go_at_call 110; refine (refCheck_calls t HF.out _ _ _ (HA.out.keep HZa.out.below)).mono ?_; rintro _ w1 ⟨rfl, hb1⟩; rw [HO.out]; have HZ1 := Lib.hid (HZa.out.keep hb1); clear hb1)
    go_ret
    refine ⟨gO, ⟨rfl, HZ1.out.ne.1, ?_⟩, HZ1.out.below⟩
    unfold szOut
    rw [HO.out]
    exact HZ1.out.out
  | true =>
    have HO := Lib.hid hok
    have HOK := Lib.hid (TreeOK.of hok)
    clear hok
    go_upto_region 4 with (go_at_call 110; refine (refCheck_calls t HF.out _ _ _ (HA.out.keep HZa.out.below)).mono ?_; rintro _ w1 ⟨rfl, hb1⟩; rw [HO.out]; have HZ1 := Lib.hid (HZa.out.keep hb1); clear hb1)
    clear HZa t0 t1
    go_wp2
    go_loopg [6, 7, 8] l.length (fun g s6 s7 s8 wr => ∃ i : Nat, i + g = l.length ∧ s6 = .int .i64 i ∧ Hid (RZ w A t.nodes.length c t.now bt gO ((szRun t (l.take i)).out ++ List.replicate (l.length - i) 0) wr))
    case atStart =>
      refine ⟨0, by omega, rfl, ?_⟩
      simpa [szRun, szInit] using HZ1
    case round =>
      clear HZ1
      obtain ⟨i, hg, rfl, HZ⟩ := hrel
      cases gk with
      | zero =>
        obtain rfl : i = l.length := by omega
        go_wp2
        go_ret
        refine ⟨gO, ⟨rfl, HZ.out.ne.1, ?_⟩, HZ.out.below⟩
        unfold szOut
        rw [HO.out, if_pos rfl]
        simpa using HZ.out.out
      | succ gg =>
        obtain ⟨x, hxi⟩ : ∃ x, l[i]? = some x := ⟨l[i]'(by omega), by simp⟩
        obtain ⟨bS, oS, rfl, s0, s1, s2, s3⟩ := HS.out i x hxi
        replace s1 := cell_keep HZ.out.below s1
        replace s3 := cell_keep HZ.out.below s3
        have hnext := szRun_next t l hxi
        have hI := szI_take t l i (by omega)
        have hfine := szFine_run (M := 1000000) (by omega) (sizeN_le HOK.out) (l.take i)
        have hil : (l.take i).length = i := by rw [List.length_take]; omega
        obtain ⟨st, hst⟩ : ∃ y, y = szRun t (l.take i) := ⟨_, rfl⟩
        rw [← hst] at hnext hI hfine HZ
        have hol : st.out.length = i := by rw [hI.out, hil]
        have hbnd : ∀ (xs : List Int), (∀ k, k < i → xs.getD k 0 = st.out.getD k 0) → ∀ j n, j + n ≤ i → -1000000000000 ≤ refSum t l xs j n ∧ refSum t l xs j n ≤ 1000000000000 := by
          intro xs hxs j n hjn
          have h1 := hI.sum j n (by omega)
          have h2 := hfine.cur (j + n) (by omega)
          have h3 := hfine.cur j (by omega)
          rw [hol] at h2 h3
          have h4 : refSum t l xs j n = refSum t (l.take i) st.out j n := refSum_congr t j fun k hk => ⟨by rw [List.getElem?_take, if_pos (by omega)], hxs k (by omega)⟩
          rw [h4]
          have h5 : (i : Int) * 1000000 ≤ 900000 * 1000000 := by omega
          omega
        have HNX := Lib.hid hnext
        have HXI := Lib.hid hxi
        have HOL := Lib.hid hol
        have HBN := Lib.hid hbnd
        rw [show l.length - i = gg + 1 by omega] at HZ
        have HZ' : Hid (RZ w (A) t.nodes.length c t.now bt gO (st.out ++ [0] ++ List.replicate gg 0) wr) := by
          have := HZ.out
          rw [List.replicate_succ] at this
          exact Lib.hid (by simpa using this)
        have hi1 : i < l.length := by omega
        have hi2 : (i : Int) < (l.length : Int) := by omega
        have hd : decide ((i : Int) < (l.length : Int)) = true := decide_eq_true hi2
        clear hst hfine hI hil hnext hxi hol hbnd HZ s0 s2
        have t0 := HZ'.out.t0
        have t1 := HZ'.out.t1
        by_cases hr : x.node < 1 ∨ (t.nodes.length : Int) ≤ x.node
        · have hval : refVal t l st.out i x = 0 := by unfold refVal; rw [if_pos (by omega)]
          have HV := Lib.hid hval
          clear hval
          by_cases hr1 : x.node < 1
          · have hr1d : decide (x.node < 1) = true := decide_eq_true hr1
            go_wp2
            go_roundg gg
            case measure => omega
            case rel =>
              refine ⟨i + 1, by omega, by go_num, ?_⟩
              rw [HNX.out, HV.out, show l.length - (i + 1) = gg by omega]
              exact HZ'
          · have hr1d : decide (x.node < 1) = false := decide_eq_false hr1
            have hr2d : decide (x.node ≥ (t.nodes.length : Int)) = true := decide_eq_true (by omega)
            go_wp2
            go_roundg gg
            case measure => omega
            case rel =>
              refine ⟨i + 1, by omega, by go_num, ?_⟩
              rw [HNX.out, HV.out, show l.length - (i + 1) = gg by omega]
              exact HZ'
        · obtain ⟨y, hy⟩ : ∃ y, t.nodes[x.node.toNat]? = some y := ⟨t.nodes[x.node.toNat]'(by omega), by simp⟩
          obtain ⟨b, o, D, cd, L, cl, rfl, -, -, -, -, n0, -⟩ := HA.out.get hy
          replace n0 := cell_keep HZ'.out.below n0
          have hat := at_eq hy
          have hr1d : decide (x.node < 1) = false := decide_eq_false (by omega)
          have hr2d : decide (x.node ≥ (t.nodes.length : Int)) = false := decide_eq_false (by omega)
          have HAT := Lib.hid hat
          have hn0 : 0 ≤ x.node := by omega
          have hn1 : x.node < (t.nodes.length : Int) := by omega
          clear hat hy
          by_cases hk : y.kind = 0
          · have hval : refVal t l st.out i x = 0 := by unfold refVal; rw [if_pos (by rw [HAT.out]; omega)]
            have HV := Lib.hid hval
            have hkd : decide (y.kind = 0) = true := decide_eq_true hk
            have hkb : (y.kind == 0) = true := beq_iff_eq.2 hk
            clear hval hk
            go_wp2
            go_roundg gg
            case measure => omega
            case rel =>
              refine ⟨i + 1, by omega, by go_num, ?_⟩
              rw [HNX.out, HV.out, show l.length - (i + 1) = gg by omega]
              exact HZ'
          · have hkd : decide (y.kind = 0) = false := decide_eq_false hk
            have hkb : (y.kind == 0) = false := beq_eq_false_iff_ne.2 hk
            have hbad : ¬ (x.node < 1 ∨ (t.nodes.length : Int) ≤ x.node ∨ (t.at x.node).kind = 0) := by rw [HAT.out]; omega
            have HBAD := Lib.hid hbad
            clear hk hbad
            by_cases hd2 : y.kind = 2
            · have hkd2 : decide (y.kind = 2) = true := decide_eq_true hd2
              have hkb2 : (y.kind == 2) = true := beq_iff_eq.2 hd2
              have hkb3 : (y.kind != 2) = false := by rw [hd2]; rfl
              cases haf : x.after with
              | false =>
                have hval : refVal t l st.out i x = 0 := by
                  unfold refVal
                  rw [if_neg HBAD.out, if_neg (by rw [HAT.out, hd2]; simp), if_neg (by rw [haf]; simp)]
                have HV := Lib.hid hval
                rw [haf] at s3
                clear hval hd2 haf
                go_wp2
                go_roundg gg
                case measure => omega
                case rel =>
                  refine ⟨i + 1, by omega, by go_num, ?_⟩
                  rw [HNX.out, HV.out, show l.length - (i + 1) = gg by omega]
                  exact HZ'
              | true =>
                have hval : refVal t l st.out i x = belowV t l (st.out ++ [0] ++ List.replicate gg 0) x i := by
                  unfold refVal belowV
                  rw [if_neg HBAD.out, if_neg (by rw [HAT.out, hd2]; simp), if_pos haf]
                  cases hf : refFrom l x i with
                  | none => rfl
                  | some j =>
                    have := refFrom_lt x hf
                    dsimp only
                    refine refSum_congr t j fun k hk => ⟨rfl, ?_⟩
                    have := HOL.out
                    rw [List.append_assoc, getD_front (by omega)]
                have HV := Lib.hid hval
                rw [haf] at s3
                clear hval hd2 haf
                go_wp2_with (go_at_call 112; refine (refBelow_calls t _ c l hl _ cs gO (st.out ++ [0] ++ List.replicate gg 0) (by have := HOL.out; simp; omega) i x HXI.out hn47 _ (HA.out.keep HZ'.out.below) (HS.out.keep HZ'.out.below) HZ'.out.out (HBN.out _ fun k hk => by have := HOL.out; rw [List.append_assoc, getD_front (by omega)])).mono ?_; rintro _ we ⟨rfl, hbe⟩; rw [← HV.out]; have hZe := HZ'.out.keep hbe; have g3 := hZe.out.cell i (by have := HOL.out; simp; omega); have g4 := hZe.out.free i; have HZE := Lib.hid hZe; clear hZe hbe)
                go_roundg gg
                case measure => omega
                case rel =>
                  refine ⟨i + 1, by omega, by go_num, ?_⟩
                  have := HZE.out.set_ i (refVal t l st.out i x)
                  rw [set_app2 _ _ _ HOL.out] at this
                  rw [HNX.out, show l.length - (i + 1) = gg by omega]
                  exact Lib.hid this
            · have hkd2 : decide (y.kind = 2) = false := decide_eq_false hd2
              have hkb2 : (y.kind == 2) = false := beq_eq_false_iff_ne.2 hd2
              have hkb3 : (y.kind != 2) = true := bne_iff_ne.2 hd2
              have hval : refVal t l st.out i x = if ∀ z ∈ l.take i, z.node ≠ x.node then sizeN y else 0 := by
                unfold refVal
                rw [if_neg HBAD.out, if_pos (by rw [HAT.out]; exact hd2), HAT.out]
              have HV := Lib.hid hval
              have hszy : sizeN y = ((y.data.length + y.target.size : Nat) : Int) + (y.list.length : Nat) := rfl
              obtain ⟨sy, hsy⟩ : ∃ v, v = sizeN y := ⟨_, rfl⟩
              rw [← hsy] at hszy HV
              have HSY := Lib.hid hszy
              have hfd : ∀ w : World, (Instr.field 88 (.agg #[.int .i64 x.node, .int .u8 y.kind, .int .i64 y.mode, .int .i64 y.user, .int .i64 y.group, .int .i64 y.links, .int .i64 sy, .int .i64 y.time]) 6).run Tryz.prog w = .ok (.int .i64 sy) w := fun _ => by kernel_rfl
              clear hval hd2 hsy hszy
              go_upto_region 12 with (go_at_call 111; refine (refOf_calls t HF.out x.node hn0 hn1 _ c _ (HA.out.keep HZ'.out.below)).mono ?_; rintro _ we ⟨rfl, hbe⟩; rw [HAT.out, statV, ← HSY.out]; have hZe := HZ'.out.keep hbe; have g3 := hZe.out.cell i (by have := HOL.out; simp; omega); have g4 := hZe.out.free i; have HZE := Lib.hid hZe; clear hZe hbe)
              obtain ⟨wf, hwf⟩ : ∃ y, y = we.setCell ⟨gO, i, none⟩ (.int .i64 sy) := ⟨_, rfl⟩
              have hZf := HZE.out.set_ i sy
              rw [set_app2 _ _ _ HOL.out, ← hwf] at hZf
              rw [← hwf]
              have HZF := Lib.hid hZf
              clear hwf hZf g3 g4 HZE t0 t1 s1 s3 n0
              go_loopg [8] i (fun g s8 wi => ∃ k : Nat, k + g = i ∧ s8 = .int .i64 k ∧ Hid (RZ w (some ⟨b, o, none⟩) t.nodes.length c t.now bt gO (st.out ++ [if ∀ z ∈ l.take k, z.node ≠ x.node then sy else 0] ++ List.replicate gg 0) wi))
              case atStart => exact ⟨0, by omega, rfl, by simpa using HZF⟩
              case round =>
                clear HZF
                obtain ⟨k, hkg, rfl, HZk⟩ := hrel
                cases gk with
                | zero =>
                  obtain rfl : k = i := by omega
                  go_wp2
                  go_roundg gg
                  case measure => omega
                  case rel =>
                    refine ⟨k + 1, by omega, by go_num, ?_⟩
                    rw [HNX.out, HV.out, show l.length - (k + 1) = gg by omega]
                    exact HZk
                | succ g3 =>
                  obtain ⟨z, hz⟩ : ∃ z, l[k]? = some z := ⟨l[k]'(by omega), by simp⟩
                  obtain ⟨b', o', hA', z0, z1, z2, z3⟩ := HS.out k z hz
                  cases hA'
                  replace z1 := cell_keep HZk.out.below z1
                  have hk1 : k < l.length := by omega
                  have hk2 : (k : Int) < (l.length : Int) := by omega
                  have hki : decide ((k : Int) < (i : Int)) = true := decide_eq_true (by omega)
                  have HTA := Lib.hid (take_all (x := x) hz)
                  clear hz z0 z2 z3
                  by_cases hzx : z.node = x.node
                  · have e1 : decide (z.node = x.node) = true := decide_eq_true hzx
                    have e2 : (z.node == x.node) = true := beq_iff_eq.2 hzx
                    have g5 := HZk.out.out.cell i (by have := HOL.out; simp; omega)
                    have g6 := HZk.out.out.free i
                    go_wp2
                    go_roundg g3
                    case measure => omega
                    case rel =>
                      refine ⟨k + 1, by omega, by go_num, ?_⟩
                      have h1 := HZk.out.set_ i 0
                      rw [set_app2 _ _ _ HOL.out] at h1
                      rw [if_neg (fun a => (HTA.out.1 a).2 hzx)]
                      exact Lib.hid h1
                  · have e1 : decide (z.node = x.node) = false := decide_eq_false hzx
                    have e2 : (z.node == x.node) = false := beq_eq_false_iff_ne.2 hzx
                    go_wp2
                    go_roundg g3
                    case measure => omega
                    case rel =>
                      refine ⟨k + 1, by omega, by go_num, ?_⟩
                      have h1 : (∀ q ∈ l.take (k + 1), q.node ≠ x.node) ↔ ∀ q ∈ l.take k, q.node ≠ x.node := ⟨fun a => (HTA.out.1 a).1, fun a => HTA.out.2 ⟨a, hzx⟩⟩
                      by_cases h2 : ∀ q ∈ l.take k, q.node ≠ x.node
                      · rw [if_pos (h1.2 h2)]
                        rw [if_pos h2] at HZk
                        exact HZk
                      · rw [if_neg (fun a => h2 (h1.1 a))]
                        rw [if_neg h2] at HZk
                        exact HZk
end Go.Proofs.YtbfcfjgcmideeaaGreatDoor
