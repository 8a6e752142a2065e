/- tree.listed: how often each node is listed, how many directories each lists. -/
import Derived.Test.YtbfcfjgcmideeaaGreatDoorN1
import Derived.Test.YtbfcfjgcmideeaaGreatDoorM1
import Derived.Deep.DeepCutAuto
import Derived.Deep.CutBlock
import Derived.WalkLawsBesides
namespace Go.Proofs.YtbfcfjgcmideeaaGreatDoor
open Go.RowKit
attribute [local go_sem] Later.cell_eq
def IntRow (w : World) (g : Nat) (xs : List Int) : Prop := w.heap[g]? = some (.cells (xs.map (Value.int .i64)).toArray 3 (0, 0))
theorem run_make_rowN {P : Program} (t e : TypeId) (i : TypeInfo) (z : Value) (ht : P.underlying t = some (.slice e)) (hi : P.info? e = some i) (hz : i.zero = some z)
    (kl kc : IntKind) (n c : Nat) (hnc : n ≤ c) (hbytes : i.bytes * c ≤ 281474976710656) (h63 : c ≤ 9223372036854775807) (w : World) :
    (Instr.makeSlice t (.int kl (n : Int)) (.int kc (c : Int))).run P w = .ok (.slice (some ⟨w.heap.size, 0, none⟩) n c) (w.alloc (.cells (madeCells z.cells (c * i.size)) e)) := by
  have hb : (i.bytes : Int) * (c : Int) ≤ 281474976710656 := by
    have h : ((i.bytes * c : Nat) : Int) ≤ 281474976710656 := by omega
    rwa [Int.natCast_mul] at h
  have hr := run_make (P := P) w t e i z ht hi hz kl kc n c (by omega) (by omega) hb (by omega)
  simp only [Int.toNat_natCast] at hr
  exact hr
theorem int_info : (Tryz.prog.info? 3).map (fun i => (i.zero, i.size, i.bytes)) = some (some (.int .i64 0), 1, 8) := by kernel_rfl
theorem make_ints (n : Nat) (hn : n ≤ 1000000) (w : World) :
    (Instr.makeSlice 60 (.int .i64 (n : Int)) (.int .i64 (n : Int))).run Tryz.prog w = .ok (.slice (some ⟨w.heap.size, 0, none⟩) n n) (w.alloc (.cells (Array.replicate n (.int .i64 0)) 3)) := by
  obtain ⟨i0, hi, hz0, hz1, hz2⟩ := info_parts int_info
  have h := run_make_rowN 60 3 i0 (.int .i64 0) Tryz.underlying60 hi hz0 .i64 .i64 n n (Nat.le_refl _) (by rw [hz2]; omega) (by omega) w
  have e : madeCells (Value.int .i64 0).cells (n * i0.size) = Array.replicate n (.int .i64 0) := by
    rw [hz1, Nat.mul_one]
    apply Array.ext'
    rw [show (Value.int .i64 0).cells = #[Value.int .i64 0] from rfl, toList_madeCells_one]
    simp
  rw [h, e]
theorem intRow_made (w : World) (n g : Nat) (hg : g = w.heap.size) : IntRow (w.alloc (.cells (Array.replicate n (.int .i64 0)) 3)) g (List.replicate n 0) := by
  subst hg
  unfold IntRow
  rw [heap_alloc_new]
  congr 2
  apply Array.ext'
  simp
theorem IntRow.lt {w : World} {g : Nat} {xs : List Int} (h : IntRow w g xs) : g < w.heap.size := (Array.getElem?_eq_some_iff.1 h).1
theorem IntRow.keep {w w' : World} {g : Nat} {xs : List Int} (h : IntRow w g xs) (hb : Below w.heap.size w w') : IntRow w' g xs := (hb.block g h.lt).trans h
theorem IntRow.far {w : World} {g : Nat} {xs : List Int} (h : IntRow w g xs) {p : Addr} (hp : g ≠ p.block) (u : Value) : IntRow (w.setCell p u) g xs := (Below.heap_setCell w p u g hp).trans h
theorem IntRow.cell {w : World} {g : Nat} {xs : List Int} (h : IntRow w g xs) (i : Nat) (hi : i < xs.length) : w.cell? ⟨g, i, none⟩ = some (.int .i64 (xs.getD i 0)) := by
  rw [cell_of_row w g i _ _ _ h]
  simp [hi]
theorem IntRow.free {w : World} {g : Nat} {xs : List Int} (h : IntRow w g xs) (i : Nat) : w.frozen? ⟨g, i, none⟩ = false := by
  unfold IntRow at h; simp [World.frozen?, h]
theorem IntRow.set_ {w : World} {g : Nat} {xs : List Int} (h : IntRow w g xs) (i : Nat) (x : Int) : IntRow (w.setCell ⟨g, i, none⟩ (.int .i64 x)) g (xs.set i x) := by
  unfold IntRow
  rw [heap_setCell_same w g i _ _ _ h]
  congr 2
  apply Array.ext'
  simp [List.map_set]

theorem IntRow.new {w : World} {g : Nat} {xs : List Int} (h : IntRow w g xs) (o : Obj) : IntRow (w.alloc o) g xs := h.keep ((Below.refl _ _).alloc (Nat.le_refl _) _)

/-- What the call answers. -/
def ListedPost (t : TTree) (w : World) (e : Ending) (w' : World) : Prop :=
  Below w.heap.size w w' ∧
  ((e = .returned (.tuple #[.slice none 0 0, .slice none 0 0, .bool false]) ∧ ¬ ∀ i n, t.nodes[i]? = some n → listOK t i n) ∨
   (∃ g1 g2 T D, e = .returned (.tuple #[.slice (some ⟨g1, 0, none⟩) t.nodes.length t.nodes.length, .slice (some ⟨g2, 0, none⟩) t.nodes.length t.nodes.length, .bool true]) ∧ (∀ i n, t.nodes[i]? = some n → listOK t i n) ∧
     w.heap.size ≤ g1 ∧ w.heap.size ≤ g2 ∧ IntRow w' g1 T ∧ IntRow w' g2 D ∧ T.length = t.nodes.length ∧ D.length = t.nodes.length ∧
     (∀ j, j < t.nodes.length → T.getD j 0 = ((t.refs t.nodes.length).count j : Nat)) ∧ ∀ j n, t.nodes[j]? = some n → D.getD j 0 = (dirsOf t n.list : Nat)))
set_option maxHeartbeats 4000000 in
set_option maxRecDepth 100000 in
theorem listed_calls (t : TTree) (hf : t.Fits) (hn : t.nodes.length ≤ 513) (hl : ∀ n ∈ t.nodes, n.list.length ≤ 512) (A : Option Addr) (c : Nat) (w : World) (hA : NodesAt w A t.nodes) :
    Calls Tryz.prog 117 #[.agg #[.slice A t.nodes.length c, .int .i64 t.now]] w (ListedPost t w) := by
  obtain ⟨N, hN⟩ : ∃ N, t.nodes.length = N := ⟨_, rfl⟩
  have HN := Lib.hid hN
  rw [hN] at hn ⊢
  clear hN
  have HA := Lib.hid hA
  have HF := Lib.hid hf
  have HL := Lib.hid hl
  clear hA hf hl
  have hmk := make_ints N (by omega)
  go_enter Tryz.func117, Tryz.ntmps117
  go_upto_region 1 with fail
  go_cut [2, 3] (fun s2 s3 wx => ∃ g1 g2 : Nat, g1 ≠ g2 ∧ w.heap.size < g1 ∧ w.heap.size < g2 ∧ s2 = .slice (some ⟨g1, 0, none⟩) N N ∧ s3 = .slice (some ⟨g2, 0, none⟩) N N ∧ Below w.heap.size w wx ∧ wx.cell? ⟨w.heap.size, 0, none⟩ = some (.slice A N c) ∧ IntRow wx g1 (List.replicate N 0) ∧ IntRow wx g2 (List.replicate N 0))
  case first =>
    have h1 := (Below.refl w.heap.size w).alloc (Nat.le_refl _) (.cells #[.slice A N c, .int .i64 t.now] 24)
    have H1 := Lib.hid h1
    clear h1
    go_region
    all_goals go_wp2_with fail
    all_goals go_meet
    case rel => exact ⟨_, _, by omega, by omega, by omega, rfl, rfl, ((H1.out.alloc (by simp) _).alloc (by simp; omega) _).drew, by simp [go_sem], (intRow_made _ N _ (by simp)).new _, intRow_made _ N _ (by simp)⟩
    case rel => exact ⟨_, _, by omega, by omega, by omega, rfl, rfl, ((H1.out.alloc (by simp) _).alloc (by simp; omega) _).drew, by simp [go_sem], intRow_made _ N _ (by simp), (intRow_made _ N _ (by simp)).new _⟩
  case rest =>
    obtain ⟨g1, g2, hg, hg1, hg2, rfl, rfl, hb, hbox, hr1, hr2⟩ := hcut
    go_wp2
    go_loopg [2, 3, 21] (N) (fun g s2 s3 s21 wr => ∃ i : Nat, ∃ T D : List Int, i + g = N ∧ s2 = .slice (some ⟨g1, 0, none⟩) N N ∧ s3 = .slice (some ⟨g2, 0, none⟩) N N ∧ s21 = .int .i64 i ∧ Below w.heap.size w wr ∧ wr.cell? ⟨w.heap.size, 0, none⟩ = some (.slice A N c) ∧
      IntRow wr g1 T ∧ IntRow wr g2 D ∧ OuterOK t N i T D)
    case atStart => exact ⟨0, _, _, by omega, rfl, rfl, rfl, hb, hbox, hr1, hr2, OuterOK.start t N⟩
    case round =>
      clear hr1 hr2 hbox hb
      obtain ⟨i, T, D, hig, rfl, rfl, rfl, hb, hbox, hr1, hr2, HS⟩ := hrel
      cases gk with
      | zero =>
        obtain rfl : i = N := by omega
        go_wp2
        go_ret3
        exact ⟨hb, .inr ⟨g1, g2, T, D, by rw [HN.out]; rfl, fun j n hn => HS.ok j n (by rw [← HN.out]; exact (List.getElem?_eq_some_iff.1 hn).1) hn, by omega, by omega, hr1, hr2, HS.lt.trans HN.out.symm, HS.ld.trans HN.out.symm, fun j hj => by rw [HN.out] at hj ⊢; exact HS.times j hj, fun j n hn => HS.dirs j n (by rw [← HN.out]; exact (List.getElem?_eq_some_iff.1 hn).1) hn⟩⟩
      | succ g =>
        have hi : i < N := by omega
        obtain ⟨wo, rfl⟩ : ∃ wo : World, wo = wr := ⟨_, rfl⟩
        obtain ⟨n, hni⟩ : ∃ n, t.nodes[i]? = some n := ⟨t.nodes[i]'(by rw [HN.out]; exact hi), by simp⟩
        obtain ⟨b, o, Da, cd, L, cl, rfl, hcd, hD, hcl, hL, c0, c1, c2, c3, c4, c5, c6, c7, c8, c9⟩ := HA.out.get hni
        replace c0 := cell_keep hb c0
        replace c1 := cell_keep hb c1
        replace c2 := cell_keep hb c2
        replace c3 := cell_keep hb c3
        replace c4 := cell_keep hb c4
        replace c5 := cell_keep hb c5
        replace c6 := cell_keep hb c6
        replace c7 := cell_keep hb c7
        replace c8 := cell_keep hb c8
        replace c9 := cell_keep hb c9
        have hl5 : n.list.length ≤ 512 := HL.out n (List.mem_of_getElem? hni)
        have HNI := Lib.hid hni
        have HE := Lib.hid hL
        clear hni hL hD
        go_wp2
        have hb2 : Below w.heap.size w (wo.alloc (.cells #[.int .u8 n.kind, .int .i64 n.mode, .int .i64 n.user, .int .i64 n.group, .int .i64 n.links, .int .i64 n.time, .slice Da n.data.length cd, .string n.target, .slice L n.list.length cl, .int .i64 n.parent] 80)) := below_alloc hb _
        have hbox2 : (wo.alloc (.cells #[.int .u8 n.kind, .int .i64 n.mode, .int .i64 n.user, .int .i64 n.group, .int .i64 n.links, .int .i64 n.time, .slice Da n.data.length cd, .string n.target, .slice L n.list.length cl, .int .i64 n.parent] 80)).cell? ⟨w.heap.size, 0, none⟩ = some (.slice (some ⟨b, o, none⟩) N c) := (World.cell?_alloc_lt _ _ _ (World.block_lt_of_cell? _ _ hbox)).trans hbox
        have hb6 : (wo.alloc (.cells #[.int .u8 n.kind, .int .i64 n.mode, .int .i64 n.user, .int .i64 n.group, .int .i64 n.links, .int .i64 n.time, .slice Da n.data.length cd, .string n.target, .slice L n.list.length cl, .int .i64 n.parent] 80)).cell? ⟨wo.heap.size, 8, none⟩ = some (.slice L n.list.length cl) := by rw [World.cell?_alloc_new]; rfl
        have hq1 := hr1.keep ((Below.refl wo.heap.size wo).alloc (Nat.le_refl _) (.cells #[.int .u8 n.kind, .int .i64 n.mode, .int .i64 n.user, .int .i64 n.group, .int .i64 n.links, .int .i64 n.time, .slice Da n.data.length cd, .string n.target, .slice L n.list.length cl, .int .i64 n.parent] 80))
        have hq2 := hr2.keep ((Below.refl wo.heap.size wo).alloc (Nat.le_refl _) (.cells #[.int .u8 n.kind, .int .i64 n.mode, .int .i64 n.user, .int .i64 n.group, .int .i64 n.links, .int .i64 n.time, .slice Da n.data.length cd, .string n.target, .slice L n.list.length cl, .int .i64 n.parent] 80))
        have hsz : wo.heap.size < (wo.alloc (.cells #[.int .u8 n.kind, .int .i64 n.mode, .int .i64 n.user, .int .i64 n.group, .int .i64 n.links, .int .i64 n.time, .slice Da n.data.length cd, .string n.target, .slice L n.list.length cl, .int .i64 n.parent] 80)).heap.size := by simp
        have hg1o : g1 ≠ wo.heap.size := by have := hr1.lt; omega
        have hg2o : g2 ≠ wo.heap.size := by have := hr2.lt; omega
        go_loopg [2, 3, 29] (n.list.length) (fun gg s2 s3 s29 wq => ∃ k : Nat, ∃ T D : List Int, k + gg = n.list.length ∧ s2 = .slice (some ⟨g1, 0, none⟩) N N ∧ s3 = .slice (some ⟨g2, 0, none⟩) N N ∧ s29 = .int .i64 k ∧ Below w.heap.size w wq ∧ wq.cell? ⟨w.heap.size, 0, none⟩ = some (.slice (some ⟨b, o, none⟩) N c) ∧
          wq.cell? ⟨wo.heap.size, 8, none⟩ = some (.slice L n.list.length cl) ∧ wo.heap.size < wq.heap.size ∧
          IntRow wq g1 T ∧ IntRow wq g2 D ∧ InnerOK t N i n.list k T D)
        case atStart => exact ⟨0, T, D, by omega, rfl, rfl, rfl, hb2, hbox2, hb6, hsz, hq1, hq2, HS.inner _⟩
        case round =>
          clear hb2 hbox2 hb6 hq1 hq2 hr1 hr2 hbox hb c0 c1 c2 c3 c4 c5 c6 c7 c8 c9 hsz
          clear HS
          obtain ⟨k, T, D, hkg, rfl, rfl, rfl, hb, hbox, hb6, hsz, hr1, hr2, HS⟩ := hrel
          cases gk with
          | zero =>
            obtain rfl : k = n.list.length := by omega
            go_wp2
            go_roundg g
            case measure => omega
            case rel => exact ⟨i + 1, T, D, by omega, rfl, rfl, by go_num, hb, hbox, hr1, hr2, HS.outer HNI.out⟩
          | succ gg =>
            have hk : k < n.list.length := by omega
            obtain ⟨e, hke⟩ : ∃ e, n.list[k]? = some e := ⟨n.list[k], by simp⟩
            obtain ⟨b', o', rfl, e0, e1⟩ := HE.out k e hke
            have hb'w := World.block_lt_of_cell? _ _ e0
            have hb'q := below_lt hb hb'w
            have hwq := World.block_lt_of_cell? _ _ hbox
            replace e0 := cell_keep hb e0
            replace e1 := cell_keep hb e1
            dsimp only at hb'w hb'q hwq
            have HK := Lib.hid hke
            clear hke
            go_upto_region 8 with fail
            go_cut [66] (fun s66 wx => ∃ bad : Bool, s66 = .bool bad ∧ (bad = true ↔ ¬ preOK N k n.list e) ∧ Below (wr.alloc (.cells #[.string e.name, .int .i64 e.node] 162)).heap.size (wr.alloc (.cells #[.string e.name, .int .i64 e.node] 162)) wx)
            case first =>
              by_cases p1 : nameOK e.name = true
              · by_cases p2 : k = 0
                · have hk0 : decide (0 < k) = false := decide_eq_false (by omega)
                  have P2 := Lib.hid p2
                  clear p2
                  by_cases p4 : 2 ≤ e.node
                  · by_cases p5 : e.node < (N : Int)
                    · have HH : preOK N k n.list e := ⟨p1, fun q h => absurd P2.out h, p4, p5⟩
                      have d4 : decide (e.node < 2) = false := decide_eq_false (by omega)
                      have d5 : decide ((N : Int) ≤ e.node) = false := decide_eq_false (by omega)
                      have HH' := Lib.hid HH
                      clear HH
                      refine wp_region_later (by kernel_rfl) (by kernel_rfl) ?_
                      repeat (go_big_quiet_step ((exact Calls.later (name_calls _ _))))
                      refine wpQuiet_nil ?_
                      intro wL hbL
                      go_wp2_with fail
                      go_meet
                      case rel => exact ⟨_, rfl, by simp [HH'.out], hbL⟩
                    · have HH : ¬ preOK N k n.list e := fun h => p5 h.2.2.2
                      have HH' := Lib.hid HH
                      have d4 : decide (e.node < 2) = false := decide_eq_false (by omega)
                      have d5 : decide ((N : Int) ≤ e.node) = true := decide_eq_true (by omega)
                      clear HH
                      refine wp_region_later (by kernel_rfl) (by kernel_rfl) ?_
                      repeat (go_big_quiet_step ((exact Calls.later (name_calls _ _))))
                      refine wpQuiet_nil ?_
                      intro wL hbL
                      go_wp2_with fail
                      go_meet
                      case rel => exact ⟨_, rfl, by simp [HH'.out], hbL⟩
                  · have HH : ¬ preOK N k n.list e := fun h => p4 h.2.2.1
                    have HH' := Lib.hid HH
                    have d4 : decide (e.node < 2) = true := decide_eq_true (by omega)
                    clear HH
                    refine wp_region_later (by kernel_rfl) (by kernel_rfl) ?_
                    repeat (go_big_quiet_step ((exact Calls.later (name_calls _ _))))
                    refine wpQuiet_nil ?_
                    intro wL hbL
                    go_wp2_with fail
                    go_meet
                    case rel => exact ⟨_, rfl, by simp [HH'.out], hbL⟩
                · obtain ⟨q, hq⟩ : ∃ q, n.list[k - 1]? = some q := ⟨n.list[k - 1]'(by omega), by simp⟩
                  obtain ⟨b2, o2, hA2, f0, f1⟩ := HE.out (k - 1) q hq
                  cases hA2
                  replace f0 := cell_keep hb f0
                  have hk1 : ((k : Int) - 1).toNat = k - 1 := by omega
                  have hk2 : IntKind.i64.wrap ((k : Int) - 1) = (k : Int) - 1 := IntWalk.i64_in _ (by omega)
                  have hk3 : (0 : Int) ≤ (k : Int) - 1 := by omega
                  have hk4 : (k : Int) - 1 < (n.list.length : Int) := by omega
                  have hk5 : 0 < k := by omega
                  have HQ := Lib.hid hq
                  clear hq f1
                  by_cases p3 : strLt q.name e.name = true
                  · have p3' := p3
                    unfold strLt at p3'
                    by_cases p4 : 2 ≤ e.node
                    · by_cases p5 : e.node < (N : Int)
                      · have HH : preOK N k n.list e := ⟨p1, fun q' h hq' => by rw [HQ.out] at hq'; cases hq'; exact p3, p4, p5⟩
                        have d4 : decide (e.node < 2) = false := decide_eq_false (by omega)
                        have d5 : decide ((N : Int) ≤ e.node) = false := decide_eq_false (by omega)
                        have HH' := Lib.hid HH
                        clear HH
                        refine wp_region_later (by kernel_rfl) (by kernel_rfl) ?_
                        repeat (go_big_quiet_step ((exact Calls.later (name_calls _ _))))
                        refine wpQuiet_nil ?_
                        intro wL hbL
                        go_wp2_with fail
                        go_meet
                        case rel => exact ⟨_, rfl, by simp [HH'.out], hbL⟩
                      · have HH : ¬ preOK N k n.list e := fun h => p5 h.2.2.2
                        have HH' := Lib.hid HH
                        have d4 : decide (e.node < 2) = false := decide_eq_false (by omega)
                        have d5 : decide ((N : Int) ≤ e.node) = true := decide_eq_true (by omega)
                        clear HH
                        refine wp_region_later (by kernel_rfl) (by kernel_rfl) ?_
                        repeat (go_big_quiet_step ((exact Calls.later (name_calls _ _))))
                        refine wpQuiet_nil ?_
                        intro wL hbL
                        go_wp2_with fail
                        go_meet
                        case rel => exact ⟨_, rfl, by simp [HH'.out], hbL⟩
                    · have HH : ¬ preOK N k n.list e := fun h => p4 h.2.2.1
                      have HH' := Lib.hid HH
                      have d4 : decide (e.node < 2) = true := decide_eq_true (by omega)
                      clear HH
                      refine wp_region_later (by kernel_rfl) (by kernel_rfl) ?_
                      repeat (go_big_quiet_step ((exact Calls.later (name_calls _ _))))
                      refine wpQuiet_nil ?_
                      intro wL hbL
                      go_wp2_with fail
                      go_meet
                      case rel => exact ⟨_, rfl, by simp [HH'.out], hbL⟩
                  · have HH : ¬ preOK N k n.list e := fun h => p3 (h.2.1 q p2 HQ.out)
                    have HH' := Lib.hid HH
                    have p3' : Op.bytesLess q.name.toList e.name.toList = false := by simpa using p3
                    clear HH p3
                    refine wp_region_later (by kernel_rfl) (by kernel_rfl) ?_
                    repeat (go_big_quiet_step ((exact Calls.later (name_calls _ _))))
                    refine wpQuiet_nil ?_
                    intro wL hbL
                    go_wp2_with fail
                    go_meet
                    case rel => exact ⟨_, rfl, by simp [HH'.out], hbL⟩
              · refine wp_region_later (by kernel_rfl) (by kernel_rfl) ?_
                repeat (go_big_quiet_step ((exact Calls.later (name_calls _ _))))
                refine wpQuiet_nil ?_
                intro wL hbL
                go_wp2_with fail
                go_meet
                case rel => exact ⟨_, rfl, by simp [preOK, p1], hbL⟩
            case rest =>
              obtain ⟨bad, rfl, hbad, hbc⟩ := hcut
              have hbq : Below w.heap.size w wc := (below_alloc hb _).trans (hbc.mono (by simp; omega))
              have hboxc : wc.cell? ⟨w.heap.size, 0, none⟩ = some (.slice (some ⟨b, o, none⟩) N c) := cell_keep hbc ((World.cell?_alloc_lt _ _ _ hwq).trans hbox)
              have hb6c : wc.cell? ⟨wo.heap.size, 8, none⟩ = some (.slice (some ⟨b', o', none⟩) n.list.length cl) := cell_keep hbc ((World.cell?_alloc_lt _ _ _ hsz).trans hb6)
              have ha1 : Below wr.heap.size wr (wr.alloc (.cells #[.string e.name, .int .i64 e.node] 162)) := (Below.refl _ _).alloc (Nat.le_refl _) _
              have hr1c := (hr1.keep ha1).keep hbc
              have hr2c := (hr2.keep ha1).keep hbc
              have e1c : wc.cell? ⟨wr.heap.size, 1, none⟩ = some (.int .i64 e.node) := cell_keep hbc (by rw [World.cell?_alloc_new]; rfl)
              have hszc : wr.heap.size < wc.heap.size := by have := hbc.size; simp at this; omega
              cases bad with
              | true =>
                have HB := Lib.hid (hbad.mp rfl)
                clear hbad
                go_wp2
                go_ret3
                exact ⟨hbq, .inl ⟨rfl, InnerOK.bad HNI.out HK.out fun h => HB.out (entAt_pre HN.out h)⟩⟩
              | false =>
                have hpre : preOK N k n.list e := Classical.byContradiction fun h => by simpa using hbad.mpr h
                have hp4 := hpre.2.2.1
                have hp5 := hpre.2.2.2
                have hm : e.node.toNat < N := by omega
                obtain ⟨x, hx⟩ : ∃ x, t.nodes[e.node.toNat]? = some x := ⟨t.nodes[e.node.toNat]'(by rw [HN.out]; exact hm), by simp⟩
                obtain ⟨bx, ox, Dx, cdx, Lx, clx, hAx, _, _, _, _, x0, x1, x2, x3, x4, x5, x6, x7, x8, x9⟩ := HA.out.get hx
                cases hAx
                replace x0 := cell_keep hbq x0
                replace x1 := cell_keep hbq x1
                replace x2 := cell_keep hbq x2
                replace x3 := cell_keep hbq x3
                replace x4 := cell_keep hbq x4
                replace x5 := cell_keep hbq x5
                replace x6 := cell_keep hbq x6
                replace x7 := cell_keep hbq x7
                replace x8 := cell_keep hbq x8
                replace x9 := cell_keep hbq x9
                have HX := Lib.hid hx
                have HP := Lib.hid hpre
                clear hx hpre hbad
                have hTl : T.length = N := HS.lt
                have hDl : D.length = N := HS.ld
                have t0 := hr1c.cell e.node.toNat (by omega)
                have t1 := hr1c.free e.node.toNat
                have d0 := hr2c.cell i (by omega)
                have d1 := hr2c.free i
                have hg1c := hr1c.lt
                have hg2c := hr2c.lt
                obtain ⟨tb, db⟩ := HS.bounds HL.out hl5 (by omega) e.node.toNat hm
                obtain ⟨tv, htv⟩ : ∃ tv, T.getD e.node.toNat 0 = tv := ⟨_, rfl⟩
                obtain ⟨dv, hdv⟩ : ∃ dv, D.getD i 0 = dv := ⟨_, rfl⟩
                rw [htv] at t0 tb
                rw [hdv] at d0 db
                have HTV := Lib.hid htv
                have HDV := Lib.hid hdv
                have HTL := Lib.hid hTl
                have HDL := Lib.hid hDl
                clear htv hdv hTl hDl
                have tb0 := tb.1
                have tb1 := tb.2
                have db0 := db.1
                have db1 := db.2
                clear tb db
                have hb1 : Below w.heap.size w (wc.setCell ⟨g1, e.node.toNat, none⟩ (.int .i64 (tv + 1))) := hbq.setCell (by show _ ≤ g1; omega) _
                have hb2 := hb1.setCell (p := ⟨g2, i, none⟩) (by show _ ≤ g2; omega) (.int .i64 (dv + 1))
                have q1 : IntRow (wc.setCell ⟨g1, e.node.toNat, none⟩ (.int .i64 (tv + 1))) g1 (T.set e.node.toNat (T.getD e.node.toNat 0 + 1)) := by rw [HTV.out]; exact hr1c.set_ _ _
                have q2 := hr2c.far (p := ⟨g1, e.node.toNat, none⟩) (Ne.symm hg) (.int .i64 (tv + 1))
                have q1' := q1.far (p := ⟨g2, i, none⟩) hg (.int .i64 (dv + 1))
                have q2' : IntRow ((wc.setCell ⟨g1, e.node.toNat, none⟩ (.int .i64 (tv + 1))).setCell ⟨g2, i, none⟩ (.int .i64 (dv + 1))) g2 (D.set i (D.getD i 0 + 1)) := by rw [HDV.out]; exact q2.set_ _ _
                have y1 := cell_set (q := ⟨g1, e.node.toNat, none⟩) (u := .int .i64 (tv + 1)) hboxc (by show w.heap.size ≠ g1; omega)
                have y2 := cell_set (q := ⟨g2, i, none⟩) (u := .int .i64 (dv + 1)) y1 (by show w.heap.size ≠ g2; omega)
                have z1 := cell_set (q := ⟨g1, e.node.toNat, none⟩) (u := .int .i64 (tv + 1)) hb6c (by show wo.heap.size ≠ g1; omega)
                have z2 := cell_set (q := ⟨g2, i, none⟩) (u := .int .i64 (dv + 1)) z1 (by show wo.heap.size ≠ g2; omega)
                have Q1 := Lib.hid q1
                have Q2 := Lib.hid q2
                have Q1' := Lib.hid q1'
                have Q2' := Lib.hid q2'
                have Y1 := Lib.hid y1
                have Y2 := Lib.hid y2
                have Z1 := Lib.hid z1
                have Z2 := Lib.hid z2
                clear q1 q2 q1' q2' y1 y2 z1 z2
                by_cases kx : x.kind = 2
                · have kx' : (x.kind == 2) = true := beq_iff_eq.2 kx
                  have kx0 : (x.kind == 0) = false := beq_eq_false_iff_ne.2 (by omega)
                  have KX := Lib.hid kx
                  clear kx
                  by_cases px : x.parent = i
                  · have px' : (x.parent != (i : Int)) = false := by simp [px]
                    have PX := Lib.hid px
                    clear px
                    go_wp2
                    go_roundg gg
                    case measure => omega
                    case rel => exact ⟨k + 1, _, _, by omega, rfl, rfl, by go_num, below_alloc hb2 _, cell_new Y2.out _, cell_new Z2.out _, by simp; omega, Q1'.out.new _, Q2'.out.new _, HS.dirStep hi HK.out ((entAt_iff HN.out HX.out).mpr ⟨HP.out, by rw [KX.out]; decide, fun _ => PX.out⟩) HX.out KX.out hm⟩
                  · have px' : (x.parent != (i : Int)) = true := by simp [px]
                    have PX := Lib.hid px
                    clear px
                    go_wp2
                    go_ret3
                    exact ⟨below_alloc hb2 _, .inl ⟨rfl, InnerOK.bad HNI.out HK.out fun h => PX.out (((entAt_iff HN.out HX.out).mp h).2.2 KX.out)⟩⟩
                · have kx' : (x.kind == 2) = false := beq_eq_false_iff_ne.2 kx
                  have KX := Lib.hid kx
                  clear kx
                  by_cases kz : x.kind = 0
                  · have kx0 : (x.kind == 0) = true := beq_iff_eq.2 kz
                    have KZ := Lib.hid kz
                    clear kz
                    go_wp2
                    go_ret3
                    exact ⟨below_alloc hb1 _, .inl ⟨rfl, InnerOK.bad HNI.out HK.out fun h => ((entAt_iff HN.out HX.out).mp h).2.1 KZ.out⟩⟩
                  · have kx0 : (x.kind == 0) = false := beq_eq_false_iff_ne.2 kz
                    have KZ := Lib.hid kz
                    clear kz
                    go_wp2
                    go_roundg gg
                    case measure => omega
                    case rel => exact ⟨k + 1, _, _, by omega, rfl, rfl, by go_num, below_alloc hb1 _, cell_new Y1.out _, cell_new Z1.out _, by simp; omega, Q1.out.new _, Q2.out.new _, HS.otherStep HK.out ((entAt_iff HN.out HX.out).mpr ⟨HP.out, KZ.out, fun h => absurd h KX.out⟩) HX.out KX.out hm⟩
end Go.Proofs.YtbfcfjgcmideeaaGreatDoor
