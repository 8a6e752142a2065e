/- WalkSizes: what any steps tell of sizes is the document's; the list is new memory. -/
import Derived.Test.YtbfcfjgcmideeaaGreatDoorK3
import Derived.Test.YtbfcfjgcmideeaaGreatDoorL1
import Derived.Test.YtbfcfjgcmideeaaGreatDoorRefSz
import Derived.Test.YtbfcfjgcmideeaaGreatDoorW5
namespace Go.Proofs.YtbfcfjgcmideeaaGreatDoor
open Go.RowKit
attribute [local go_sem] Later.cell_eq
def stepSum (l : List TStep) (i : Nat) : Nat := ((l.take i).map fun e => e.path.size).sum
theorem stepSum_succ {l : List TStep} {i : Nat} {e : TStep} (h : l[i]? = some e) : stepSum l (i + 1) = stepSum l i + e.path.size := by
  unfold stepSum
  rw [List.take_add_one, h]
  simp
theorem stepSum_mem {l : List TStep} : ∀ {x : TStep}, x ∈ l → x.path.size ≤ stepSum l l.length := by
  intro x hx
  unfold stepSum
  rw [List.take_length]
  induction l with
  | nil => cases hx
  | cons a r ih =>
    rw [List.map_cons, List.sum_cons]
    rcases List.mem_cons.1 hx with rfl | h
    · omega
    · have := ih h; omega
/-- A step as it may be given. -/
def StepFit (x : TStep) : Prop := x.path.size ≤ 140737488355328 ∧ I64 x.node ∧ I64 x.depth
set_option maxHeartbeats 2000000 in
set_option maxRecDepth 100000 in
theorem stepsSize_calls (l : List TStep) (hl : l.length ≤ 140737488355328) (hn : ∀ e ∈ l, e.path.size ≤ 140737488355328) (A : Option Addr) (c : Nat) (w : World) (hA : StepsAt w A l) :
    Calls Tryz.prog 25 #[.slice A l.length c] w fun e w' => ∃ s : Nat, (e = .returned (.int .i64 s) ∧ s ≤ 281474977759232 ∧ (s ≤ 1048576 → s = l.length + stepSum l l.length)) ∧ Below w.heap.size w w' := by
  have HA := Lib.hid hA
  have HN := Lib.hid hn
  clear hA hn
  go_enter Tryz.func25, Tryz.ntmps25
  go_wp2
  go_loopg [3, 4] l.length (fun g s3 s4 wr => ∃ i s : Nat, i + g = l.length ∧ s3 = .int .i64 s ∧ s4 = .int .i64 i ∧ s = l.length + stepSum l i ∧ s ≤ 281474977759232 ∧ Below w.heap.size w wr)
  case atStart => exact ⟨0, l.length, by omega, rfl, rfl, by simp [stepSum], by omega, Below.refl _ _⟩
  case round =>
    obtain ⟨i, s, hg, rfl, rfl, hs, hle, hb⟩ := hrel
    have HS := Lib.hid hs
    clear hs
    cases gk with
    | zero =>
      obtain rfl : i = l.length := by omega
      go_wp2
      go_ret
      exact ⟨s, ⟨rfl, hle, fun _ => HS.out⟩, hb⟩
    | succ g =>
      obtain ⟨e, he⟩ : ∃ e, l[i]? = some e := ⟨l[i]'(by omega), by simp⟩
      obtain ⟨b, o, rfl, e0, e1, e2, e3⟩ := HA.out i e he
      replace e0 := cell_keep hb e0
      have hel := HN.out e (List.mem_of_getElem? he)
      have HE := Lib.hid he
      clear he e1 e2 e3
      by_cases hc : s ≤ 1048576
      · have h1 : decide ((s : Int) ≤ 1048576) = true := decide_eq_true (by omega)
        have h2 : decide (s ≤ 1048576) = true := decide_eq_true hc
        go_wp2
        go_roundg g
        case measure => omega
        case rel => exact ⟨i + 1, s + e.path.size, by omega, by push_cast; rfl, by go_num, by rw [stepSum_succ HE.out, HS.out]; omega, by omega, hb⟩
      · have h1 : decide ((s : Int) ≤ 1048576) = false := decide_eq_false (by omega)
        have h2 : decide (s ≤ 1048576) = false := decide_eq_false hc
        have HC := Lib.hid hc
        clear hc
        go_wp2
        go_ret
        exact ⟨s, ⟨rfl, hle, fun h => absurd h HC.out⟩, hb⟩
theorem intRow_own {w : World} {B g : Nat} {xs : List Int} (h : IntRow w g xs) (hB : B ≤ g) (hl : xs.length ≤ 1000000) : OwnX w B 3 1 (.slice (some ⟨g, 0, none⟩) xs.length xs.length) (xs.map fun x => [.int .i64 x]) := by
  have hsum : (xs.map fun x => [Value.int .i64 x]).flatten.length = xs.length := by
    clear h hl
    induction xs with
    | nil => rfl
    | cons a l ih => rw [List.map_cons, List.flatten_cons, List.length_append, ih]; simp; omega
  refine .inl ⟨⟨?_, .inr ⟨g, xs.length, _, by simp, hB, h, by simp, by unfold maxLen; omega, by simp, ?_⟩⟩, fun r hr => ?_⟩
  · rw [hsum]; simp
  · have e : ∀ l : List Int, (l.map fun x => [Value.int .i64 x]).flatten = l.map (Value.int .i64) := fun l => by
      induction l with
      | nil => rfl
      | cons a l ih => rw [List.map_cons, List.flatten_cons, ih]; rfl
    rw [e, List.take_of_length_le (by simp)]
  · obtain ⟨x, -, rfl⟩ := List.mem_map.1 hr
    rfl
theorem intRow_at {w : World} {g : Nat} {xs : List Int} (h : IntRow w g xs) : IntsAt w (some ⟨g, 0, none⟩) xs := fun i x hi => by
  have hl := (List.getElem?_eq_some_iff.1 hi).1
  have := h.cell i hl
  rw [List.getD_eq_getElem?_getD, hi] at this
  exact ⟨g, 0, rfl, by rw [Nat.zero_add]; exact this⟩
theorem szOut_len (t : TTree) (l : List TStep) : (szOut t l).length = l.length := by
  unfold szOut
  split
  · exact (szRun_len t l).1
  · simp
theorem StepsAt.stand {w w' : World} {g : Nat} {l : List TStep} (h : StepsAt w (some ⟨g, 0, none⟩) l) (hb : w'.heap[g]? = w.heap[g]?) : StepsAt w' (some ⟨g, 0, none⟩) l := fun i x hi => by
  obtain ⟨b, o, he, h0, h1, h2, h3⟩ := h i x hi
  cases he
  exact ⟨g, 0, rfl, (World.cell?_of_block hb).trans h0, (World.cell?_of_block hb).trans h1, (World.cell?_of_block hb).trans h2, (World.cell?_of_block hb).trans h3⟩
set_option maxHeartbeats 4000000 in
set_option maxRecDepth 100000 in
theorem lawSizes_calls (t : TTree) (hF : t.Fits) (A : Option Addr) (c : Nat) (l : List TStep) (hll : l.length ≤ 140737488355328) (hfit : ∀ x ∈ l, StepFit x) (S : Option Addr) (cs : Nat) (w : World) (hA : NodesAt w A t.nodes) (hS : StepsAt w S l) (ht : TabW w) :
    Calls Tryz.prog 4 #[.agg #[.slice A t.nodes.length c, .int .i64 t.now], .slice S l.length cs] w fun e w' => e = .returned (.bool true) ∧ Below w.heap.size w w' := by
  have HF := Lib.hid hF
  have HA := Lib.hid hA
  have HS := Lib.hid hS
  have HT := Lib.hid ht
  have HFT := Lib.hid hfit
  clear hF hA hS ht hfit
  go_enter Tryz.func4, Tryz.ntmps4
  go_upto_region 1 with fail
  obtain ⟨wa, hwa⟩ : ∃ y, y = w.alloc (.cells #[.slice A t.nodes.length c, .int .i64 t.now] 24) := ⟨_, rfl⟩
  have hBa : Below w.heap.size w wa := by rw [hwa]; exact below_alloc (Below.refl _ _) _
  have x0 : wa.cell? ⟨w.heap.size, 0, none⟩ = some (.slice A t.nodes.length c) := by rw [hwa, cell_of_row _ _ _ _ _ _ (heap_alloc_new w _)]; rfl
  have x1 : wa.cell? ⟨w.heap.size, 1, none⟩ = some (.int .i64 t.now) := by rw [hwa, cell_of_row _ _ _ _ _ _ (heap_alloc_new w _)]; rfl
  rw [← hwa]
  obtain ⟨b0, hb0⟩ : ∃ y, y = w.heap.size := ⟨_, rfl⟩
  rw [← hb0] at x0 x1
  rw [← hb0]
  have HB := Lib.hid hBa
  have HB0 := Lib.hid hb0
  clear hwa hBa hb0
  go_cut [22] (fun s wx => (s = .bool true ∨ (s = .bool false ∧ t.size ≤ 60000 ∧ l.length ≤ 500 ∧ stepSum l l.length ≤ 50000)) ∧ Hid (Below wa.heap.size wa wx))
  case first =>
    by_cases h5 : l.length ≤ 500
    · have hd5 : decide ((l.length : Int) > 500) = false := decide_eq_false (by omega)
      have hd5b : decide (500 < (l.length : Int)) = false := decide_eq_false (by omega)
      have hd5c : decide (500 < l.length) = false := decide_eq_false (by omega)
      go_wp2_with (first
        | (go_at_call 24; refine (treeSize_calls t HF.out A c _ (HA.out.keep HB.out)).mono ?_; rintro _ w1 ⟨q, ⟨rfl, hq2⟩, hb1⟩; have HQ := Lib.hid hq2; have HB1 := Lib.hid hb1; clear hq2 hb1)
        | (go_at_call 25; refine (stepsSize_calls l (by omega) (fun e he => (HFT.out e he).1) S cs _ (HS.out.keep (below_step HB.out HB1.out))).mono ?_; rintro _ w2 ⟨q2, ⟨rfl, hq3, hq4⟩, hb2⟩; have HQ2 := Lib.hid hq4; have HB2 := Lib.hid hb2; clear hq4 hb2))
      all_goals go_meet
      · refine ⟨?_, Lib.hid (below_step HB1.out HB2.out)⟩
        by_cases h7 : 60000 < (q : Int)
        · exact .inl (by simp [h7])
        · by_cases h6 : 50000 < (q2 : Int)
          · exact .inl (by simp [h6])
          · refine .inr ⟨by simp [h6, h7], ?_, h5, ?_⟩
            · have := HQ.out; omega
            · have := HQ2.out (by omega); omega
      · exact ⟨.inl rfl, HB1⟩
    · have hd5 : decide ((l.length : Int) > 500) = true := decide_eq_true (by omega)
      have hd5b : decide (500 < (l.length : Int)) = true := decide_eq_true (by omega)
      have hd5c : decide (500 < l.length) = true := decide_eq_true (by omega)
      go_wp2_with (first
        | (go_at_call 24; refine (treeSize_calls t HF.out A c _ (HA.out.keep HB.out)).mono ?_; rintro _ w1 ⟨q, ⟨rfl, hq2⟩, hb1⟩; have HQ := Lib.hid hq2; have HB1 := Lib.hid hb1; clear hq2 hb1))
      all_goals go_meet
      all_goals exact ⟨.inl (by first | rfl | simp), HB1⟩
  case rest =>
    obtain ⟨hs22, hbq⟩ := hcut
    have HB1 := Lib.hid (below_step HB.out hbq.out)
    replace x0 := cell_keep hbq.out x0
    replace x1 := cell_keep hbq.out x1
    clear hbq
    rcases hs22 with rfl | ⟨rfl, hsz, hl5, hsum⟩
    · go_wp2_with (go_at_call 13; refine (lives18_calls _).mono ?_; rintro _ w2 ⟨rfl, hb2⟩)
      go_ret
      exact ⟨rfl, below_step HB1.out hb2⟩
    · have hcost := TTree.cost hsz
      have hF6 : ∀ n ∈ t.nodes, n.data.length ≤ 1000000 ∧ n.list.length ≤ 1000000 := fun n hn => by have := hcost.2 n hn; omega
      have hnl : t.nodes.length ≤ 100000 := by have := hcost.1; omega
      have hok : ∀ x ∈ l, x.path.size ≤ 1000000 ∧ I64 x.node ∧ I64 x.depth := fun x hx => ⟨by have := stepSum_mem hx; omega, (HFT.out x hx).2⟩
      have HF6 := Lib.hid hF6
      have HOK := Lib.hid hok
      clear hcost hF6 hok hsz hsum HFT
      go_upto_region 4 with (go_at_call 14; refine (twinTree_calls t (by omega) HF6.out A c _ (HA.out.keep HB1.out)).mono ?_; rintro _ w2 ⟨gt, capt, ⟨rfl, htw⟩, hb2⟩; have HTW := Lib.hid htw; have HB2 := Lib.hid (below_step HB1.out hb2); replace x0 := cell_keep hb2 x0; replace x1 := cell_keep hb2 x1; clear htw hb2)
      have htw := HTW.out.base_down HB1.out.size
      obtain ⟨lab1, htin⟩ := htw.inn
      have HTW2 := Lib.hid htw
      have HIN := Lib.hid htin
      clear htw htin HTW
      obtain ⟨wt, hwt⟩ : ∃ y, y = w2.alloc (.cells #[.slice (some ⟨gt, 0, none⟩) t.nodes.length capt, .int .i64 t.now] 24) := ⟨_, rfl⟩
      have t0 : wt.cell? ⟨w2.heap.size, 0, none⟩ = some (.slice (some ⟨gt, 0, none⟩) t.nodes.length capt) := by rw [hwt, cell_of_row _ _ _ _ _ _ (heap_alloc_new w2 _)]; rfl
      have t1 : wt.cell? ⟨w2.heap.size, 1, none⟩ = some (.int .i64 t.now) := by rw [hwt, cell_of_row _ _ _ _ _ _ (heap_alloc_new w2 _)]; rfl
      have hBt : Below w2.heap.size w2 wt := by rw [hwt]; exact below_alloc (Below.refl _ _) _
      rw [← hwt]
      obtain ⟨bt, hbt⟩ : ∃ y, y = w2.heap.size := ⟨_, rfl⟩
      rw [← hbt] at t0 t1
      rw [← hbt]
      have HBT0 := Lib.hid hbt
      have HBT := Lib.hid hBt
      replace x0 := cell_keep hBt x0
      replace x1 := cell_keep hBt x1
      clear hwt hbt hBt
      go_upto_region 5 with (go_at_call 26; refine (twinSteps_calls l (by omega) S cs _ (HS.out.keep (below_step HB2.out HBT.out))).mono ?_; rintro _ w3 ⟨gs, caps, ⟨rfl, hcs, hgs, hown⟩, hb3⟩; have HSO := Lib.hid hown; have HSC := Lib.hid (And.intro hcs hgs); have HB3 := Lib.hid hb3; replace x0 := cell_keep hb3 x0; replace x1 := cell_keep hb3 x1; replace t0 := cell_keep hb3 t0; replace t1 := cell_keep hb3 t1; clear hown hb3 hcs hgs)
      have hsx : OwnX w3 wt.heap.size 111 4 (.slice (some ⟨gs, 0, none⟩) l.length caps) (stepRows l) := by
        have h1 := HSO.out
        rw [show stepRows (l ++ [spareS]) = stepRows l ++ [spareS.cells.toList] by simp [stepRows]] at h1
        have h2 := h1.front
        rw [show (stepRows l).length = l.length by simp [stepRows]] at h2
        exact h2.x
      have hst1 : StepsAt w3 (some ⟨gs, 0, none⟩) (l ++ [spareS]) := HSO.out.rd.stepsAt.2
      have hst2 : StepsAt w3 (some ⟨gs, 0, none⟩) l := hsx.rd.stepsAt.2
      have HSX := Lib.hid hsx
      have HST1 := Lib.hid hst1
      have HST2 := Lib.hid hst2
      clear hsx hst1 hst2 HSO
      go_upto_region 6 with (go_at_call 27; refine (sz_calls t HF.out (some ⟨gt, 0, none⟩) capt _ ((HTW2.out.nodes.keep HBT.out).keep HB3.out) l (by omega) (some ⟨gs, 0, none⟩) caps HST2.out HOK.out).mono ?_; rintro _ w4 ⟨gi, ⟨rfl, hgi, hri⟩, hb4⟩; have HRI := Lib.hid hri; have HGI := Lib.hid hgi; have HB4 := Lib.hid hb4; replace x0 := cell_keep hb4 x0; replace x1 := cell_keep hb4 x1; replace t0 := cell_keep hb4 t0; replace t1 := cell_keep hb4 t1; clear hri hgi hb4)
      have HB04 := Lib.hid (below_step (below_step (below_step HB2.out HBT.out) HB3.out) HB4.out)
      go_upto_region 7 with (go_at_call 28; refine (refSz_calls t HF.out A c _ (HA.out.keep HB04.out) (by omega) l (by omega) S cs (HS.out.keep HB04.out)).mono ?_; rintro _ w5 ⟨gr, ⟨rfl, hgr, hrr⟩, hb5⟩; have HRR := Lib.hid hrr; have HGR := Lib.hid hgr; have HB5 := Lib.hid hb5; replace x0 := cell_keep hb5 x0; replace x1 := cell_keep hb5 x1; replace t0 := cell_keep hb5 t0; replace t1 := cell_keep hb5 t1; clear hrr hgr hb5)
      go_upto_region 8 with fail
      obtain ⟨wk, hwk⟩ : ∃ y, y = w5.alloc (.cells #[.int .i64 0, .slice none 0 0, .slice none 0 0, .slice none 0 0, .slice none 0 0, .slice none 0 0, .slice none 0 0, .slice none 0 0, .slice none 0 0, .slice none 0 0, .slice none 0 0, .slice none 0 0, .slice none 0 0] 53) := ⟨_, rfl⟩
      have hbox := heap_alloc_new w5 (.cells #[.int .i64 0, .slice none 0 0, .slice none 0 0, .slice none 0 0, .slice none 0 0, .slice none 0 0, .slice none 0 0, .slice none 0 0, .slice none 0 0, .slice none 0 0, .slice none 0 0, .slice none 0 0, .slice none 0 0] 53)
      have hBk : Below w5.heap.size w5 wk := by rw [hwk]; exact below_alloc (Below.refl _ _) _
      rw [← hwk] at hbox
      rw [← hwk]
      obtain ⟨bk, hbk⟩ : ∃ y, y = w5.heap.size := ⟨_, rfl⟩
      rw [← hbk] at hbox
      rw [← hbk]
      replace x0 := cell_keep hBk x0
      replace x1 := cell_keep hBk x1
      replace t0 := cell_keep hBk t0
      replace t1 := cell_keep hBk t1
      have hB5 := HB5.out
      have hB4k : Below w4.heap.size w4 wk := below_step hB5 hBk
      have hB3k := below_step HB4.out hB4k
      have hBtk := below_step HB3.out hB3k
      have hB2k := below_step HBT.out hBtk
      have s45 := hB5.size
      have s34 := HB4.out.size
      have st3 := HB3.out.size
      have s2t := HBT.out.size
      have hgl := HSX.out.lt
      have hgi := HGI.out
      have hil := HRI.out.lt
      have hsl := szOut_len t l
      have hio : OwnX w4 w3.heap.size 3 1 (.slice (some ⟨gi, 0, none⟩) l.length l.length) ((szOut t l).map fun x => [.int .i64 x]) := by
        have := intRow_own HRI.out hgi (by omega)
        rwa [hsl] at this
      have g1 : ∀ k, (Value.slice (some ⟨gs, 0, none⟩) l.length caps).ownBlock = some k → k = gs := fun k hk => by simpa [Value.ownBlock] using hk.symm
      have g2 : ∀ k, (Value.slice (some ⟨gi, 0, none⟩) l.length l.length).ownBlock = some k → k = gi := fun k hk => by simpa [Value.ownBlock] using hk.symm
      have hgs := hgl gs rfl
      obtain ⟨lab, hbi, hti, hl1, hl2, hlow, hno⟩ := book_lab (j1 := 12) (j2 := 2) (v1 := .slice (some ⟨gs, 0, none⟩) l.length caps) (v2 := .slice (some ⟨gi, 0, none⟩) l.length l.length) HIN.out hB2k HB2.out.size hbox (by omega) (fun k hk => by have := g1 k hk; omega) (fun k hk => by have := g2 k hk; omega) (fun k hk h => by have := g1 k hk; have := g2 k h; omega)
      have hgsl : lab gs = (12, 1) := hl1 gs rfl
      have hgil : lab gi = (2, 1) := hl2 gi rfl
      have hle := (below_step HB2.out HBT.out).size
      have hle3 := (below_step (below_step HB2.out HBT.out) HB3.out).size
      have HBI := Lib.hid hbi
      have HTI := Lib.hid hti
      have HLA := Lib.hid (And.intro ((HSX.out.keep hB3k).down hle) hl1)
      have HLB := Lib.hid (And.intro ((hio.keep hB4k).down hle3) hl2)
      have HLOW := Lib.hid hlow
      have HNO := Lib.hid hno
      have HBK := Lib.hid (below_step HB2.out hB2k)
      have HB2K := Lib.hid hB2k
      have HTWK := Lib.hid (HTW2.out.keep hB2k)
      have HSTK := Lib.hid (HST1.out.keep hB3k)
      have HRIK := Lib.hid (HRI.out.keep hB4k)
      have HRRK := Lib.hid (HRR.out.keep hBk)
      have HX := Lib.hid (And.intro x0 x1)
      have HTC := Lib.hid (And.intro t0 t1)
      have HGG := Lib.hid (And.intro hgsl hgil)
      have HSL := Lib.hid hsl
      have hkb0 := World.block_lt_of_cell? _ _ x0
      have hkbt := World.block_lt_of_cell? _ _ t0
      dsimp only at hkb0 hkbt
      have HNL := Lib.hid (And.intro (And.intro hgs hgi) (And.intro hil (And.intro HRR.out.lt hbk)))
      have HLE := Lib.hid (And.intro hle hle3)
      have HK5 := Lib.hid hBk.size
      have HSZ := Lib.hid (And.intro s45 (And.intro s34 (And.intro st3 s2t)))
      clear hwk hbk hbox hBk hB5 hB4k hB3k hBtk hB2k s45 s34 st3 s2t hgl hgi hil hsl hio g1 g2 hgs hbi hti hl1 hl2 hlow hno hgsl hgil hle hle3 x0 x1
      go_upto_region 11 with (first
        | (go_at_call 20; refine (treeIn_kept w _ lab bk 0 (fun _ => 0) HBI.out HBK.out t.nodes (by omega) (by decide) HF6.out (some ⟨gt, 0, none⟩) capt _ HTI.out).mono ?_; rintro _ w9 ⟨rfl, hk9⟩; obtain ⟨lab9, hu9, hi9, ho9, hm9⟩ := hk9.on HLA.out.1 HLA.out.2 (by decide); have HK9 := Lib.hid hk9; have H9 := Lib.hid (And.intro hu9 (And.intro hi9 (And.intro ho9 hm9))); clear hk9 hu9 hi9 ho9 hm9)
        | (go_at_call 21; refine (steps_kept w _ lab9 bk _ _ H9.out.2.1 HK9.out.below (by omega) (some ⟨gs, 0, none⟩) _ caps _ H9.out.2.2.1 (by simp [stepRows]; omega) H9.out.2.2.2).mono ?_; rintro _ w10 ⟨rfl, hk10⟩; have hk := HK9.out.trans H9.out.1 hk10; obtain ⟨lab10, hu10, hi10, ho10, hm10⟩ := hk.on HLB.out.1 HLB.out.2 (by decide); have HK10 := Lib.hid hk; have H10 := Lib.hid (And.intro hu10 (And.intro hi10 (And.intro ho10 hm10))); clear hk10 hk hu10 hi10 ho10 hm10)
        | (go_at_call 29; refine (ints_kept w _ lab10 bk _ _ H10.out.2.1 HK10.out.below (by omega) (some ⟨gi, 0, none⟩) _ l.length _ H10.out.2.2.1 (by rw [List.length_map, HSL.out]; omega) H10.out.2.2.2).mono ?_; rintro _ w11 ⟨rfl, hk11⟩; have HK11 := Lib.hid (HK10.out.trans H10.out.1 hk11); clear hk11))
      have hkt := HK11.out.turned
      have hbe := HK11.out.below
      obtain ⟨⟨n1, n2⟩, n3, n4, n5⟩ := HNL.out
      obtain ⟨m1, m2⟩ := HLE.out
      obtain ⟨z1, z2, z3, z4⟩ := HSZ.out
      have hbk2 := HBK.out.size
      have hk5 := HK5.out
      have hno := HNO.out (by decide) (by decide)
      have q0 := HB0.out
      have qt := HBT0.out
      have b2s := HB2.out.size
      have b1s := HB1.out.size
      have hst : ∀ k, w.heap.size ≤ k → k < w5.heap.size → w11.heap[k]? = wk.heap[k]? := fun k h0 h1 => hkt.block k (by omega) (hno k h0 (by omega))
      have gx0 := hst b0 (by omega) (by omega)
      have x0 : w11.cell? ⟨b0, 0, none⟩ = _ := (World.cell?_of_block gx0).trans HX.out.1
      have gx1 := hst b0 (by omega) (by omega)
      have x1 : w11.cell? ⟨b0, 1, none⟩ = _ := (World.cell?_of_block gx1).trans HX.out.2
      have gt0 := hst bt (by omega) (by omega)
      have t0 : w11.cell? ⟨bt, 0, none⟩ = _ := (World.cell?_of_block gt0).trans HTC.out.1
      have gt1 := hst bt (by omega) (by omega)
      have t1 : w11.cell? ⟨bt, 1, none⟩ = _ := (World.cell?_of_block gt1).trans HTC.out.2
      have HIA := Lib.hid (intRow_at ((hst gi (by omega) (by omega)).trans HRIK.out))
      have HIR := Lib.hid (intRow_at ((hst gr (by have := HGR.out; omega) n4).trans HRRK.out))
      have HST := Lib.hid (HSTK.out.stand (hst gs (by omega) (by omega)))
      have HTW11 := Lib.hid (HTW2.out.turned ((turned_below (S := fun k => Hd (lab k)) HB2K.out).trans hkt fun _ _ h => h) fun k h0 hk => hno k h0 (by omega))
      have HBE := Lib.hid hbe
      have hsl := HSL.out
      have hcs := HSC.out.1
      clear hkt hbe n1 n2 n3 n4 n5 m1 m2 z1 z2 z3 z4 hbk2 hno q0 qt b2s b1s hst hk5 gx0 gx1 gt0 gt1
      go_wp2_with (first
        | (go_at_call 30; rw [← hsl]; refine (sameInts_calls (szOut t l) (by omega) (some ⟨gi, 0, none⟩) (some ⟨gr, 0, none⟩) (szOut t l).length (szOut t l).length _ HIA.out HIR.out).mono ?_; rintro _ w12 ⟨rfl, hb12⟩; have HB12 := Lib.hid hb12; replace x0 := cell_keep hb12 x0; replace x1 := cell_keep hb12 x1; replace t0 := cell_keep hb12 t0; replace t1 := cell_keep hb12 t1; clear hb12)
        | (go_at_call 19; refine (leftTree_calls t (by omega) HF6.out A c _ gt capt _ (HA.out.keep (below_step HBE.out HB12.out)) (HTW11.out.keep HB12.out)).mono ?_; rintro _ w13 ⟨rfl, hb13⟩; have HB13 := Lib.hid (below_step HB12.out hb13); clear hb13)
        | (go_at_call 31; refine (leftSteps_calls l (by omega) S cs gs caps hcs _ (HS.out.keep (below_step HBE.out HB13.out)) (HST.out.keep HB13.out)).mono ?_; rintro _ w14 ⟨rfl, hb14⟩; have HB14 := Lib.hid (below_step HB13.out hb14); clear hb14)
        | (go_at_call 23; refine ((HK11.out.keep HB14.out).apart HLOW.out HBK.out.size (by omega) HT.out).mono ?_; rintro _ w15 ⟨rfl, hb15⟩)
        | (go_at_call 13; refine (lives18_calls _).mono ?_; rintro _ w16 ⟨rfl, hb16⟩))
      go_ret
      exact ⟨rfl, below_step hb15 hb16⟩
theorem lawSizes_card (t : TTree) (hF : t.Fits) (A : Option Addr) (c : Nat) (l : List TStep) (hl : l.length ≤ 140737488355328 ∧ ∀ x ∈ l, StepFit x) (S : Option Addr) (cs : Nat) (w : World) (hA : NodesAt w A t.nodes) (hS : StepsAt w S l) (ht : TabW w) :
    Calls Tryz.prog 4 #[.agg #[.slice A t.nodes.length c, .int .i64 t.now], .slice S l.length cs] w fun e w' => e = .returned (.bool true) ∧ Below w.heap.size w w' :=
  lawSizes_calls t hF A c l hl.1 hl.2 S cs w hA hS ht
end Go.Proofs.YtbfcfjgcmideeaaGreatDoor
