/- The reference of layer 14: In. -/
import Derived.Test.YtbfcfjgcmideeaaGreatDoorP1
import Derived.Test.YtbfcfjgcmideeaaGreatDoorRef13
import Derived.Test.YtbfcfjgcmideeaaGreatDoorRefB
import Derived.Test.YtbfcfjgcmideeaaGreatDoorM5
import Derived.Test.YtbfcfjgcmideeaaGreatDoorM2
namespace Go.Proofs.YtbfcfjgcmideeaaGreatDoor
open Go.RowKit
attribute [local go_sem] Later.cell_eq
/-- What a walk of the reference along a path keeps. -/
structure RBase (w0 : World) (b b1 b2 : Nat) (t : TTree) (A : Option Addr) (c : Nat) (u g m d : Int) : Prop where
  t0 : w0.cell? ⟨b, 0, none⟩ = some (.slice A t.nodes.length c)
  t1 : w0.cell? ⟨b, 1, none⟩ = some (.int .i64 t.now)
  e0 : w0.cell? ⟨b1, 0, none⟩ = some (.int .i64 u)
  e1 : w0.cell? ⟨b1, 1, none⟩ = some (.int .i64 g)
  e2 : w0.cell? ⟨b1, 2, none⟩ = some (.int .i64 m)
  e3 : w0.cell? ⟨b1, 3, none⟩ = some (.int .i64 d)
  pl : w0.heap[b2]? = some (.cells noPlace.cells 122 (0, 0))
  nodes : NodesAt w0 A t.nodes
theorem RBase.keep {w0 w1 : World} {b b1 b2 : Nat} {t : TTree} {A : Option Addr} {c : Nat} {u g m d : Int} (h : RBase w0 b b1 b2 t A c u g m d) (hb : Below w0.heap.size w0 w1) : RBase w1 b b1 b2 t A c u g m d :=
  ⟨cell_keep hb h.t0, cell_keep hb h.t1, cell_keep hb h.e0, cell_keep hb h.e1, cell_keep hb h.e2, cell_keep hb h.e3, (hb.block _ (Array.getElem?_eq_some_iff.1 h.pl).1).trans h.pl, h.nodes.keep hb⟩
theorem rBase_made (w : World) (t : TTree) (A : Option Addr) (c : Nat) (u g m d : Int) (hA : NodesAt w A t.nodes) :
    RBase (((w.alloc (.cells #[.slice A t.nodes.length c, .int .i64 t.now] 24)).alloc (.cells #[.int .i64 u, .int .i64 g, .int .i64 m, .int .i64 d] 26)).alloc (.cells noPlace.cells 122)) w.heap.size (w.heap.size + 1) (w.heap.size + 1 + 1) t A c u g m d := by
  refine ⟨by simp [go_sem], by simp [go_sem], by simp [go_sem], by simp [go_sem], by simp [go_sem], by simp [go_sem], heap_alloc_at (by simp) _, hA.keep (below_alloc (below_alloc (below_alloc (Below.refl _ _) _) _) _)⟩
theorem tail_list2 (w : World) (X b o o' N c : Nat) (x : ByteArray) (xs : List ByteArray) (rest : List (List UInt8)) (hx : xs.map (·.data.toList) = rest) (hN : N = xs.length) (hc' : N ≤ c) (hbX : b ≠ X) (hbl : b < w.heap.size)
    (hc : ∀ (k : Nat) (y : ByteArray), (x :: xs)[k]? = some y → w.cell? ⟨b, o + k, none⟩ = some (.string y)) (ho : o' = o + 1 ∨ xs.length = 0) :
    StrList w X (.slice (some ⟨b, o', none⟩) N c) rest := by
  subst hN
  refine ⟨xs, some ⟨b, o', none⟩, c, rfl, hc', fun h => (by cases h), hx, .inr ⟨b, o', rfl, hbX, hbl, fun k y hk => ?_⟩⟩
  rcases ho with rfl | h
  · have := hc (k + 1) y (by simpa using hk)
    rwa [show o + (k + 1) = o + 1 + k by omega] at this
  · have := (List.getElem?_eq_some_iff.1 hk).1
    omega
theorem kind_three {t : TTree} (h : TreeOK t) {a : Int} {s : ByteArray} (h0 : tIn t a s ≠ 0) (hF : t.Fits) : (t.at (tIn t a s)).kind = 1 ∨ (t.at (tIn t a s)).kind = 2 ∨ (t.at (tIn t a s)).kind = 3 := by
  have hr := tIn_range h a s
  have hk0 : (t.at (tIn t a s)).kind ≠ 0 := by
    have h1 := h0
    unfold tIn at h1 ⊢
    by_cases hra : a < 1 ∨ (t.nodes.length : Int) ≤ a
    · rw [if_pos hra] at h1; exact absurd rfl h1
    · rw [if_neg hra] at h1 ⊢
      obtain ⟨e, he, h2⟩ := inList_mem h1
      obtain ⟨x, hx⟩ : ∃ x, t.nodes[a.toNat]? = some x := ⟨t.nodes[a.toNat]'(by omega), by simp⟩
      rw [at_eq hx] at he h2 ⊢
      obtain ⟨k, hk⟩ := List.mem_iff_getElem?.1 he
      have := h.lists _ x hx k e ((List.getElem?_eq_some_iff.1 hk).1) hk
      rw [← h2]
      exact this.2.2.2.2.1
  obtain ⟨y, hy⟩ : ∃ y, t.nodes[(tIn t a s).toNat]? = some y := ⟨t.nodes[(tIn t a s).toNat]'(by omega), by simp⟩
  rw [at_eq hy] at hk0 ⊢
  have hm := List.mem_of_getElem? hy
  have h1 := h.each y hm
  have h2 := (hF.each y hm).kind
  unfold TNode.ok TNode.nums at h1
  rw [Bool.and_eq_true] at h1
  have h3 := of_decide_eq_true h1.1
  omega
theorem rcond (k : Int) (hk : k = 1 ∨ k = 2 ∨ k = 3) (rest : List (List UInt8)) (d : Bool) : (rest.isEmpty && ((k == 3 || k == 1 && !d) || k == 2)) = (rest.isEmpty && (k != 1 || !d)) := by
  rcases hk with rfl | rfl | rfl <;> cases rest <;> cases d <;> rfl
theorem rcond3 (k : Int) (rest : List (List UInt8)) (f d : Bool) : (k == 3 && (!rest.isEmpty || f || d)) = true ↔ (k = 3 ∧ (rest ≠ [] ∨ f = true ∨ d = true)) := by cases rest <;> cases f <;> cases d <;> simp
theorem rcond1 (k : Int) (rest : List (List UInt8)) (d : Bool) : (rest.isEmpty && (k != 1 || !d)) = true ↔ rest = [] ∧ (k ≠ 1 ∨ d = false) := by cases rest <;> cases d <;> simp
theorem src_of_list {w w' : World} {X : Nat} {A : Option Addr} {xs : List ByteArray} (hb : Below w.heap.size w w') (h : xs = [] ∧ A = none ∨ ∃ b o, A = some ⟨b, o, none⟩ ∧ b ≠ X ∧ b < w.heap.size ∧ ∀ (k : Nat) x, xs[k]? = some x → w.cell? ⟨b, o + k, none⟩ = some (.string x)) :
    SrcAt w' A (xs.map fun x => [Value.string x]) := by
  rcases h with ⟨h1, h2⟩ | ⟨b, o, h1, h2, h3, h4⟩
  · exact .inl ⟨by rw [h1]; rfl, h2⟩
  · refine .inr ⟨b, o, h1, fun j u hu => ?_⟩
    rw [flat_single, List.getElem?_map] at hu
    obtain ⟨x, hx, rfl⟩ := Option.map_eq_some_iff.1 hu
    exact cell_keep hb (h4 j x hx)
set_option maxHeartbeats 4000000 in
set_option maxRecDepth 100000 in
theorem refIn_path_calls (t : TTree) (hF : t.Fits) (hT : TreeOK t) (u g m d : Int) (hd : DirAt t d) (p : ByteArray) (hp47 : p.size ≤ 140737488355328) (follow : Bool) (A : Option Addr) (c : Nat) (w : World) (hA : NodesAt w A t.nodes) :
    Calls Tryz.prog 147 #[.agg #[.slice A t.nodes.length c, .int .i64 t.now], .agg #[.int .i64 u, .int .i64 g, .int .i64 m, .int .i64 d], .string p, .bool follow] w fun e w' => e = .returned (.tuple #[(inS t u g d p.data.toList follow).1.val, .int .i64 (inS t u g d p.data.toList follow).2]) ∧ Below w.heap.size w w' := by
  have hpl : p.data.toList.length = p.size := Array.length_toList
  have HF := Lib.hid hF
  have HT := Lib.hid hT
  have HA := Lib.hid hA
  have HD := Lib.hid hd
  clear hF hT hA hd
  unfold inS
  by_cases h0 : p.size = 0
  · have h1 : p.toList = [] := (toList_nil p).mpr h0
    rw [if_pos (List.eq_nil_of_length_eq_zero (by omega))]
    have HIR := Lib.hid (rBase_made w t A c u g m d HA.out)
    have HBR : Hid (Below w.heap.size w (((w.alloc (.cells #[.slice A t.nodes.length c, .int .i64 t.now] 24)).alloc (.cells #[.int .i64 u, .int .i64 g, .int .i64 m, .int .i64 d] 26)).alloc (.cells noPlace.cells 122))) := Lib.hid (below_alloc (below_alloc (below_alloc (Below.refl _ _) _) _) _)
    have h8 := HIR.out.pl
    go_enter Tryz.func147, Tryz.ntmps147
    go_wp2_with (first | refine wpList_store_rowTo rfl 122 _ _ rfl rfl (w.heap.size + 1 + 1) noPlace.cells rfl rfl 122 _ h8 (by kernel_rfl) rfl (by simp [noPlace, PlaceV.cells, Value.oneCell']) ?_)
    have h9 := setRow_heap _ (w.heap.size + 1 + 1) _ noPlace.cells _ _ h8
    have hL := run_loadVar_row (P := Tryz.prog) _ _ _ 122 _ _ _ h9 Tryz.underlying122 rfl (by kernel_rfl)
    refine bodyPost_ret (v := .tuple #[noPlace.val, .int .i64 6]) (results_cell_tmp rfl rfl rfl hL) rfl ?_
    exact ⟨rfl, below_setRow HBR.out (by omega) _⟩
  · have h1 : ¬ p.toList = [] := fun e => h0 ((toList_nil p).mp e)
    have h2 : p.toList.isEmpty = false := by simpa using h1
    rw [if_neg (fun e => h0 (by rw [← hpl, e]; rfl))]
    cases hb : badS p.data.toList with
    | true =>
      have HB := Lib.hid hb
      clear hb
      have HIR := Lib.hid (rBase_made w t A c u g m d HA.out)
      have HBR : Hid (Below w.heap.size w (((w.alloc (.cells #[.slice A t.nodes.length c, .int .i64 t.now] 24)).alloc (.cells #[.int .i64 u, .int .i64 g, .int .i64 m, .int .i64 d] 26)).alloc (.cells noPlace.cells 122))) := Lib.hid (below_alloc (below_alloc (below_alloc (Below.refl _ _) _) _) _)
      have h8 := HIR.out.pl
      have hpm : p.size ≤ 140737488355328 := hp47
      go_enter Tryz.func147, Tryz.ntmps147
      go_wp2_with (first | (go_at_call 215; refine (refBad_calls p hpm _).mono ?_; rintro _ w1 ⟨rfl, hw1⟩; obtain rfl := hw1.symm; rw [HB.out]) | refine wpList_store_rowTo rfl 122 _ _ rfl rfl (w.heap.size + 1 + 1) noPlace.cells rfl rfl 122 _ h8 (by kernel_rfl) rfl (by simp [noPlace, PlaceV.cells, Value.oneCell']) ?_)
      have h9 := setRow_heap _ (w.heap.size + 1 + 1) _ noPlace.cells _ _ h8
      have hL := run_loadVar_row (P := Tryz.prog) _ _ _ 122 _ _ _ h9 Tryz.underlying122 rfl (by kernel_rfl)
      refine bodyPost_ret (v := .tuple #[noPlace.val, .int .i64 13]) (results_cell_tmp rfl rfl rfl hL) rfl ?_
      exact ⟨rfl, below_setRow HBR.out (by omega) _⟩
    | false =>
      rw [if_neg (by simp)]
      obtain ⟨R, hR⟩ : ∃ x, x = inGo t u g follow 20000 (if p.data.toList.head? = some 47 then 1 else d) (partsOf p.data.toList) (slashEnd p.data.toList) 0 := ⟨_, rfl⟩
      rw [← hR]
      have HRR := Lib.hid hR.symm
      clear hR
      have HB := Lib.hid hb
      clear hb
      have hpm : p.size ≤ 140737488355328 := hp47
      have hp1 : 0 < p.size := by omega
      have hfb := first_byte p hp1
      obtain ⟨b47, hbn⟩ : ∃ b, p[0]'hp1 = b := ⟨_, rfl⟩
      rw [hbn] at hfb
      have hbb : (p[0]'hp1).toNat = b47.toNat := by rw [hbn]
      have HFB := Lib.hid hfb
      clear hfb hbn
      go_enter Tryz.func147, Tryz.ntmps147
      go_upto_region 6 with (go_at_call 215; refine (refBad_calls p hpm _).mono ?_; rintro _ w1 ⟨rfl, hw1⟩; obtain rfl := hw1.symm; rw [HB.out])
      rename_i Q2 K2 a2 K3 a3
      have hq2 : ∀ e a w0, bodyPost Tryz.prog Tryz.f147 (fun e w' => e = .returned (.tuple #[R.1.val, .int .i64 R.2]) ∧ Below w.heap.size w w') e a w0 → Q2 e a w0 := fun _ _ _ h => h
      clear_value Q2
      have HQ2 := Lib.hid hq2
      clear hq2
      have hpb : p.size ≤ 1024 := by
        have := HB.out
        unfold badS at this
        rw [Bool.or_eq_false_iff, hpl] at this
        have := of_decide_eq_false this.1
        omega
      have HI := Lib.hid (rBase_made w t A c u g m d HA.out)
      have HBW : Hid (Below w.heap.size w (((w.alloc (.cells #[.slice A t.nodes.length c, .int .i64 t.now] 24)).alloc (.cells #[.int .i64 u, .int .i64 g, .int .i64 m, .int .i64 d] 26)).alloc (.cells #[.int .i64 0, .string ⟨#[]⟩, .int .i64 0, .bool false] 122))) := Lib.hid (below_alloc (below_alloc (below_alloc (Below.refl _ _) _) _) _)
      obtain ⟨w3, hw3⟩ : ∃ x, x = (((w.alloc (.cells #[.slice A t.nodes.length c, .int .i64 t.now] 24)).alloc (.cells #[.int .i64 u, .int .i64 g, .int .i64 m, .int .i64 d] 26)).alloc (.cells #[.int .i64 0, .string ⟨#[]⟩, .int .i64 0, .bool false] 122)) := ⟨_, rfl⟩
      change Hid (RBase (((w.alloc _).alloc _).alloc (.cells #[.int .i64 0, .string ⟨#[]⟩, .int .i64 0, .bool false] 122)) _ _ _ _ _ _ _ _ _ _) at HI
      rw [← hw3] at HI HBW
      rw [← hw3]
      have hsz3 : w3.heap.size = w.heap.size + 1 + 1 + 1 := by rw [hw3]; simp
      obtain ⟨b2, hb2⟩ : ∃ x, x = w.heap.size + 1 + 1 := ⟨_, rfl⟩
      rw [← hb2] at HI
      rw [← hb2]
      obtain ⟨b1, hb1⟩ : ∃ x, x = w.heap.size + 1 := ⟨_, rfl⟩
      rw [← hb1] at HI
      rw [← hb1]
      obtain ⟨b0, hb0⟩ : ∃ x, x = w.heap.size := ⟨_, rfl⟩
      rw [← hb0] at HI
      rw [← hb0]
      clear hw3
      have hord : w.heap.size ≤ b2 ∧ b0 < w3.heap.size := by omega
      clear hb2 hb1 hb0 hsz3
      have hp6 : p.size ≤ 1000000 := by omega
      go_upto_if 28 with fail
      go_cut [10] from 18 to 150 (fun s10 wx => s10 = .int .i64 (if p.data.toList.head? = some 47 then 1 else d) ∧ wx = w3)
      case first =>
        by_cases h47 : b47 = 47
        · have e47 : ((b47.toNat : Int) == 47) = true := by rw [byte47]; simpa using h47
          have e47' : b47.toNat = 47 := by rw [h47]; rfl
          have HIF : Hid ((if p.data.toList.head? = some 47 then (1 : Int) else d) = 1) := Lib.hid (by rw [HFB.out, if_pos (by rw [h47])])
          clear h47
          go_wp2
          go_meet
          exact ⟨by rw [HIF.out], rfl⟩
        · have e47 : ((b47.toNat : Int) == 47) = false := by rw [byte47]; simpa using h47
          have e47' : ¬ b47.toNat = 47 := fun e => h47 (UInt8.toNat_inj.1 e)
          have HIF : Hid ((if p.data.toList.head? = some 47 then (1 : Int) else d) = d) := Lib.hid (by rw [HFB.out, if_neg (by simpa using h47)])
          clear h47
          go_wp2
          go_meet
          exact ⟨by rw [HIF.out], rfl⟩
      case rest =>
        obtain ⟨rfl, hwx⟩ := hcut
        obtain rfl : w3 = _ := hwx.symm
        have HD1 : Hid (DirAt t (if p.data.toList.head? = some 47 then 1 else d)) := Lib.hid (by split; exact dirAt_root HT.out; exact HD.out)
        obtain ⟨d1, hd1⟩ : ∃ x, x = (if p.data.toList.head? = some 47 then (1 : Int) else d) := ⟨_, rfl⟩
        rw [← hd1] at HD1 HRR
        rw [← hd1]
        clear hd1
        have hstart : Hid ((partsOf p.data.toList).length ≤ 1025) := Lib.hid (Nat.le_trans (parts_len p) (by omega))
        go_upto_region 9 with (go_at_call 216; refine (refParts_calls p hp6 _).mono ?_; rintro _ w4 ⟨v4, ⟨rfl, hown4⟩, hb4⟩; have HSL := Lib.hid (own_list hown4 hord.2); have HB4 := Lib.hid hb4; clear hown4 hb4)
        go_upto_region 10 with (go_at_call 217; refine (refSlash_calls p hpm _).mono ?_; rintro _ w5 ⟨rfl, hw5⟩; obtain rfl : w4 = w5 := hw5.symm)
        replace HI := Lib.hid (HI.out.keep HB4.out)
        replace HBW := Lib.hid (below_step HBW.out HB4.out)
        clear HB4
        go_wp2
        go_loopg [10, 11, 12, 13] 20000 (fun gk s10 s11 s12 s13 wr => ∃ (a : Int) (v : Value) (rest : List (List UInt8)) (dirs : Bool) (hops : Nat), s10 = .int .i64 a ∧ s11 = v ∧ s12 = .bool dirs ∧ s13 = .int .i64 (hops : Int) ∧ Hid (StrList wr b0 v rest) ∧ Hid (DirAt t a) ∧ Hid (inGo t u g follow gk a rest dirs hops = R) ∧ hops ≤ 16 ∧ (16 - hops) * 1026 + rest.length < gk ∧ rest.length + (16 - hops) * 1026 ≤ 20000 ∧ Hid (RBase wr b0 b1 b2 t A c u g m d) ∧ Hid (Below w.heap.size w wr) ∧ b0 < wr.heap.size)
        case atStart =>
          exact ⟨d1, v4, partsOf p.data.toList, _, 0, rfl, rfl, rfl, rfl, HSL, HD1, HRR, by omega, by have := hstart.out; omega, by have := hstart.out; omega, HI, HBW, World.block_lt_of_cell? _ _ HI.out.t0⟩
        case round =>
          clear HSL HD1 HRR hstart HI HBW
          obtain ⟨a, v, rest, dirs, hops, rfl, rfl, rfl, rfl, HSL, HDA, HGO, hh, hm, hrl, HIR, HBR, hbl0⟩ := hrel
          cases gk with
          | zero => exact absurd hm (Nat.not_lt_zero _)
          | succ gk =>
          cases rest with
          | nil =>
            obtain rfl : R = (⟨a, [], a, dirs⟩, 0) := HGO.out.symm
            obtain ⟨xs, A0, c0, rfl, -, -, hx, -⟩ := HSL.out
            have hx0 : xs = [] := List.map_eq_nil_iff.1 hx
            subst hx0
            clear hx HGO
            have h8 := HIR.out.pl
            go_wp2_with (refine wpList_store_rowTo rfl 122 _ _ rfl rfl b2 (#[.int .i64 a, .string ⟨#[]⟩, .int .i64 a, .bool dirs]) rfl rfl 122 _ h8 (by kernel_rfl) rfl (by simp [Value.oneCell']) ?_)
            have h9 := setRow_heap _ b2 _ (#[.int .i64 a, .string ⟨#[]⟩, .int .i64 a, .bool dirs]) _ _ h8
            have hL := run_loadVar_row (P := Tryz.prog) _ _ _ 122 _ _ _ h9 Tryz.underlying122 rfl (by kernel_rfl)
            refine HQ2.out _ _ _ ?_
            refine bodyPost_ret (v := .tuple #[.agg (#[.int .i64 a, .string ⟨#[]⟩, .int .i64 a, .bool dirs]), .int .i64 0]) (results_cell_tmp rfl rfl rfl hL) rfl ?_
            exact ⟨rfl, below_setRow HBR.out hord.1 _⟩
          | cons s rest =>
            obtain ⟨xs, A0, c0, rfl, hc, -, hx, hsrc⟩ := HSL.out
            obtain ⟨x, xs, rfl⟩ : ∃ x xs', xs = x :: xs' := by
              cases xs with
              | nil => simp at hx
              | cons x xs => exact ⟨x, xs, rfl⟩
            rw [List.map_cons, List.cons.injEq] at hx
            obtain ⟨hs, hxs⟩ := hx
            rcases hsrc with ⟨h, -⟩ | ⟨bl, ol, rfl, hblX, hbl, hcells⟩
            · cases h
            have hc0 := hcells 0 x rfl
            have HCS := Lib.hid hcells
            have HXS := Lib.hid hxs
            have HS := Lib.hid hs
            rw [Nat.add_zero] at hc0
            rw [List.length_cons] at hc hrl hm
            obtain ⟨N, hN⟩ : ∃ N, N = (x :: xs).length := ⟨_, rfl⟩
            rw [← hN]
            rw [List.length_cons] at hN
            have hN0 : decide ((0 : Int) < (N : Int)) = true := decide_eq_true (by omega)
            have hN1 : 0 < N := by omega
            have hN2 : 1 ≤ N := by omega
            have hN3 : (1 : Int) ≤ (N : Int) := by omega
            have hNc : N ≤ c0 := by omega
            have hNc3 : (N : Int) ≤ (c0 : Int) := by omega
            have HN := Lib.hid hN
            clear hcells hxs hs HSL hN hc
            go_upto_region 13 with fail
            go_cut [11] from 33 to 146 (fun s11 wx => ∃ v' : Value, s11 = v' ∧ Hid (StrList wx b0 v' rest) ∧ wx = wr)
            case first =>
              go_wp2
              all_goals go_meet
              · exact ⟨_, rfl, Lib.hid (tail_list2 wr b0 bl ol ol (N - 1) 0 x xs rest HXS.out (by have := HN.out; omega) (by have := HN.out; omega) hblX hbl HCS.out (.inr (by have := HN.out; omega))), rfl⟩
              · exact ⟨_, rfl, Lib.hid (tail_list2 wr b0 bl ol (ol + 1) (N - 1) (c0 - 1) x xs rest HXS.out (by have := HN.out; omega) (by omega) hblX hbl HCS.out (.inl rfl)), rfl⟩
            case rest =>
              obtain ⟨v', hvs, HSL, hwx⟩ := hcut
              obtain rfl : wr = _ := hwx.symm
              clear hN0 hN1 hN2 hN3 hNc hNc3 HCS HXS HN hbl hblX
              obtain ⟨N', A0', c0', rfl, HN'⟩ : ∃ N' A0 c0', v' = .slice A0 N' c0' ∧ Hid (N' = rest.length) := by
                obtain ⟨xs, A0, c0, rfl, -, -, hx, -⟩ := HSL.out
                exact ⟨_, _, _, rfl, Lib.hid (by show xs.length = rest.length; rw [← hx, List.length_map])⟩
              subst hvs
              have hN3 : ((N' : Int) == 0) = rest.isEmpty := by
                have := HN'.out
                cases rest with
                | nil => rw [this]; rfl
                | cons y l => exact beq_eq_false_iff_ne.2 (by rw [this, List.length_cons]; omega)
              have ht0 := HIR.out.t0
              have ht1 := HIR.out.t1
              have he0 := HIR.out.e0
              have he1 := HIR.out.e1
              have he2 := HIR.out.e2
              have he3 := HIR.out.e3
              have ha0 : 0 ≤ a := by have := HDA.out.1; omega
              have ha1 : a < (t.nodes.length : Int) := HDA.out.2.1
              obtain ⟨n, hn⟩ : ∃ n, t.nodes[a.toNat]? = some n := ⟨t.nodes[a.toNat]'(by omega), by simp⟩
              have hat := at_eq hn
              have hnF := HF.out.each n (List.mem_of_getElem? hn)
              obtain ⟨bA, oA, D, cd, L, cl, rfl, -, -, -, -, x0, x1, x2, x3, x4, x5, x6, x7, x8, x9⟩ := HIR.out.nodes.get hn
              have hl0 := World.block_lt_of_cell? _ _ ht0
              have hl1 := World.block_lt_of_cell? _ _ he0
              have hlA := World.block_lt_of_cell? _ _ x0
              dsimp only at hl0 hl1 hlA
              have HNF := Lib.hid hnF
              have HN := Lib.hid hn
              have HAT := Lib.hid hat
              clear hn hat hnF
              go_wp2
              refine wp_region_later (by kernel_rfl) (by kernel_rfl) ?_
              repeat (go_big_quiet_step ((exact Calls.later (refMay_calls n HNF.out D L cd cl u g m d 1 (by omega) (by omega) _))))
              refine wpQuiet_nil ?_
              intro wL hbL
              replace HSL := Lib.hid (HSL.out.keep hbL)
              replace HBR := Lib.hid (below_step HBR.out hbL)
              replace HIR := Lib.hid (HIR.out.keep hbL)
              replace hbl0 := below_lt hbL hbl0
              clear ht0 ht1 he0 he1 he2 he3 x0 x1 x2 x3 x4 x5 x6 x7 x8 x9 hl0 hl1 hlA hbL hc0
              cases hmay : mayB n u g 1 with
              | false =>
                obtain rfl : R = (noPlace, 10) := by rw [← HGO.out, inGo, if_pos (by rw [HAT.out, hmay])]
                have h8 := HIR.out.pl
                go_wp2_with (refine wpList_store_rowTo rfl 122 _ _ rfl rfl b2 (PlaceV.cells (noPlace)) rfl rfl 122 _ h8 (by kernel_rfl) rfl (by simp [noPlace, PlaceV.cells, Value.oneCell']) ?_)
                have h9 := setRow_heap _ b2 _ (PlaceV.cells (noPlace)) _ _ h8
                have hL := run_loadVar_row (P := Tryz.prog) _ _ _ 122 _ _ _ h9 Tryz.underlying122 rfl (by kernel_rfl)
                refine HQ2.out _ _ _ ?_
                refine bodyPost_ret (v := .tuple #[PlaceV.val (noPlace), .int .i64 (10)]) (results_cell_tmp rfl rfl rfl hL) rfl ?_
                exact ⟨rfl, below_setRow HBR.out hord.1 _⟩
              | true =>
                have HM := Lib.hid hmay
                have hxs : x.data.toList.length = x.size := Array.length_toList
                by_cases h64 : 64 < x.size
                · obtain rfl : R = (noPlace, 13) := by rw [← HGO.out, inGo, if_neg (by rw [HAT.out, hmay]; simp), if_pos (by rw [← HS.out, hxs]; exact h64)]
                  have g64 : decide ((64 : Int) < (x.size : Int)) = true := decide_eq_true (by omega)
                  have h8 := HIR.out.pl
                  go_wp2_with (refine wpList_store_rowTo rfl 122 _ _ rfl rfl b2 (PlaceV.cells (noPlace)) rfl rfl 122 _ h8 (by kernel_rfl) rfl (by simp [noPlace, PlaceV.cells, Value.oneCell']) ?_)
                  have h9 := setRow_heap _ b2 _ (PlaceV.cells (noPlace)) _ _ h8
                  have hL := run_loadVar_row (P := Tryz.prog) _ _ _ 122 _ _ _ h9 Tryz.underlying122 rfl (by kernel_rfl)
                  refine HQ2.out _ _ _ ?_
                  refine bodyPost_ret (v := .tuple #[PlaceV.val (noPlace), .int .i64 (13)]) (results_cell_tmp rfl rfl rfl hL) rfl ?_
                  exact ⟨rfl, below_setRow HBR.out hord.1 _⟩
                · have g64 : decide ((64 : Int) < (x.size : Int)) = false := decide_eq_false (by omega)
                  by_cases h46 : s = [46]
                  · have g46 : (x.toList == [46]) = true := by rw [ByteArray.toList_eq, HS.out, h46]; rfl
                    have HGO2 : Hid (inGo t u g follow gk a rest dirs hops = R) := Lib.hid (by rw [← HGO.out, inGo, if_neg (by rw [HAT.out, hmay]; simp), if_neg (by rw [← HS.out, hxs]; exact h64), if_pos h46])
                    clear h46
                    go_wp2
                    go_roundg gk
                    case measure => omega
                    case rel => exact ⟨a, _, rest, dirs, hops, rfl, rfl, rfl, rfl, HSL, HDA, HGO2, hh, by omega, by omega, HIR, HBR, hbl0⟩
                  · have g46 : (x.toList == [46]) = false := by rw [ByteArray.toList_eq, HS.out]; exact beq_eq_false_iff_ne.2 h46
                    have ht0 := HIR.out.t0
                    have ht1 := HIR.out.t1
                    by_cases h47 : s = [46, 46]
                    · have g47 : (x.toList == [46, 46]) = true := by rw [ByteArray.toList_eq, HS.out, h47]; rfl
                      have HGO2 : Hid (inGo t u g follow gk n.parent rest dirs hops = R) := Lib.hid (by rw [← HGO.out, inGo, if_neg (by rw [HAT.out, hmay]; simp), if_neg (by rw [← HS.out, hxs]; exact h64), if_neg h46, if_pos h47, HAT.out])
                      have HDA2 : Hid (DirAt t n.parent) := Lib.hid (by rw [← HAT.out]; exact dirAt_parent HT.out HDA.out)
                      obtain ⟨bA', oA', D', cd', L', cl', hAA, -, -, -, -, x0, x1, x2, x3, x4, x5, x6, x7, x8, x9⟩ := HIR.out.nodes.get HN.out
                      cases hAA
                      clear h46 h47
                      go_wp2
                      go_roundg gk
                      case measure => omega
                      case rel => exact ⟨n.parent, _, rest, dirs, hops, rfl, rfl, rfl, rfl, HSL, HDA2, HGO2, hh, by omega, by omega, HIR, HBR, hbl0⟩
                    · have g47 : (x.toList == [46, 46]) = false := by rw [ByteArray.toList_eq, HS.out]; exact beq_eq_false_iff_ne.2 h47
                      have HG4 : Hid ((mayB (t.at a) u g 1 = true) ∧ ¬ 64 < s.length ∧ s ≠ [46] ∧ s ≠ [46, 46]) := Lib.hid ⟨by rw [HAT.out, hmay], by rw [← HS.out, hxs]; exact h64, h46, h47⟩
                      clear h46 h47
                      go_upto_region 22 with (go_at_call 218; refine (refIn_calls t HF.out a x _ c _ (HIR.out.nodes)).mono ?_; rintro _ wM ⟨rfl, hbM⟩; replace HSL := Lib.hid (HSL.out.keep hbM); replace HBR := Lib.hid (below_step HBR.out hbM); replace HIR := Lib.hid (HIR.out.keep hbM); replace hbl0 := below_lt hbM hbl0; clear hbM)
                      clear ht0 ht1
                      have hxk : x = ⟨s.toArray⟩ := by rw [← HS.out, bytes_back]
                      obtain ⟨K, hK⟩ : ∃ K, K = tIn t a x := ⟨_, rfl⟩
                      rw [← hK]
                      have hKr := tIn_range HT.out a x
                      rw [← hK] at hKr
                      obtain ⟨hK0, hK1⟩ := hKr
                      have hKT : K ≠ 0 → (t.at K).kind = 1 ∨ (t.at K).kind = 2 ∨ (t.at K).kind = 3 := by
                        rw [hK]
                        exact fun h => kind_three HT.out h HF.out
                      obtain ⟨y, hy⟩ : ∃ y, t.nodes[K.toNat]? = some y := ⟨t.nodes[K.toNat]'(by omega), by simp⟩
                      have HKY : Hid (tIn t a ⟨s.toArray⟩ = K ∧ t.at K = y) := Lib.hid ⟨by rw [← hxk, hK], at_eq hy⟩
                      rw [at_eq hy] at hKT
                      have HKT := Lib.hid hKT
                      have ht0 := HIR.out.t0
                      obtain ⟨bA', oA', E, ce, M, cm, hAA, -, -, -, -, y0, y1, y2, y3, y4, y5, y6, y7, y8, y9⟩ := HIR.out.nodes.get hy
                      cases hAA
                      have HYF := Lib.hid (HF.out.each y (List.mem_of_getElem? hy))
                      clear hy hK hxk hKT
                      have HGE : Hid ((if K = 0 then (if rest = [] then ((⟨a, s, 0, dirs⟩ : PlaceV), (0 : Int)) else (noPlace, 6)) else if y.kind = 3 ∧ (rest ≠ [] ∨ follow = true ∨ dirs = true) then (if 16 < hops + 1 then (noPlace, 12) else inGo t u g follow gk (if y.target.data.toList.head? = some 47 then 1 else a) (partsOf y.target.data.toList ++ rest) (dirs || rest.isEmpty && slashEnd y.target.data.toList) (hops + 1)) else if rest = [] ∧ (y.kind ≠ 1 ∨ dirs = false) then (⟨a, s, K, dirs⟩, 0) else if y.kind ≠ 2 then (noPlace, 9) else inGo t u g follow gk K rest dirs hops) = R) := Lib.hid (by rw [← HGO.out, inGo, if_neg (c := mayB (t.at a) u g 1 = false) (by rw [HG4.out.1]; simp), if_neg (c := 64 < s.length) HG4.out.2.1, if_neg (c := s = [46]) HG4.out.2.2.1, if_neg (c := s = [46, 46]) HG4.out.2.2.2, HKY.out.1, HKY.out.2])
                      clear HGO HG4
                      by_cases hKz : K = 0
                      · have gK : (K == 0) = true := beq_iff_eq.2 hKz
                        cases rest with
                        | nil =>
                          obtain rfl : R = (⟨a, s, 0, dirs⟩, 0) := by rw [← HGE.out, if_pos hKz, if_pos rfl]
                          clear hKz
                          have h8 := HIR.out.pl
                          go_wp2_with (refine wpList_store_rowTo rfl 122 _ _ rfl rfl b2 (#[.int .i64 a, .string x, .int .i64 0, .bool dirs]) rfl rfl 122 _ h8 (by kernel_rfl) rfl (by simp [Value.oneCell']) ?_)
                          have h9 := setRow_heap _ b2 _ (#[.int .i64 a, .string x, .int .i64 0, .bool dirs]) _ _ h8
                          have hL := run_loadVar_row (P := Tryz.prog) _ _ _ 122 _ _ _ h9 Tryz.underlying122 rfl (by kernel_rfl)
                          refine HQ2.out _ _ _ ?_
                          refine bodyPost_ret (v := .tuple #[.agg (#[.int .i64 a, .string x, .int .i64 0, .bool dirs]), .int .i64 0]) (results_cell_tmp rfl rfl rfl hL) rfl ?_
                          exact ⟨by rw [← HS.out]; rfl, below_setRow HBR.out hord.1 _⟩
                        | cons r0 rest =>
                          obtain rfl : R = (noPlace, 6) := by rw [← HGE.out, if_pos hKz, if_neg (by simp)]
                          clear hKz
                          have h8 := HIR.out.pl
                          go_wp2_with (refine wpList_store_rowTo rfl 122 _ _ rfl rfl b2 (PlaceV.cells (noPlace)) rfl rfl 122 _ h8 (by kernel_rfl) rfl (by simp [noPlace, PlaceV.cells, Value.oneCell']) ?_)
                          have h9 := setRow_heap _ b2 _ (PlaceV.cells (noPlace)) _ _ h8
                          have hL := run_loadVar_row (P := Tryz.prog) _ _ _ 122 _ _ _ h9 Tryz.underlying122 rfl (by kernel_rfl)
                          refine HQ2.out _ _ _ ?_
                          refine bodyPost_ret (v := .tuple #[PlaceV.val (noPlace), .int .i64 (6)]) (results_cell_tmp rfl rfl rfl hL) rfl ?_
                          exact ⟨rfl, below_setRow HBR.out hord.1 _⟩
                      · have gK : (K == 0) = false := beq_eq_false_iff_ne.2 hKz
                        have HKZ := Lib.hid hKz
                        have hyk := HKT.out hKz
                        clear hKz
                        go_upto_region 28 with fail
                        obtain ⟨wN, hwN⟩ : ∃ z, z = wM.alloc (.cells #[.int .u8 y.kind, .int .i64 y.mode, .int .i64 y.user, .int .i64 y.group, .int .i64 y.links, .int .i64 y.time, .slice E y.data.length ce, .string y.target, .slice M y.list.length cm, .int .i64 y.parent] 80) := ⟨_, rfl⟩
                        have hbN : Below wM.heap.size wM wN := by rw [hwN]; exact below_alloc (Below.refl _ _) _
                        have hxN : wN.heap[wM.heap.size]? = some (.cells #[.int .u8 y.kind, .int .i64 y.mode, .int .i64 y.user, .int .i64 y.group, .int .i64 y.links, .int .i64 y.time, .slice E y.data.length ce, .string y.target, .slice M y.list.length cm, .int .i64 y.parent] 80 (0, 0)) := by rw [hwN]; exact heap_alloc_new wM _
                        rw [← hwN]
                        replace HSL := Lib.hid (HSL.out.keep hbN)
                        replace HBR := Lib.hid (below_step HBR.out hbN)
                        replace HIR := Lib.hid (HIR.out.keep hbN)
                        replace hbl0 := below_lt hbN hbl0
                        obtain ⟨gx, hgx⟩ : ∃ z, z = wM.heap.size := ⟨_, rfl⟩
                        rw [← hgx] at hxN
                        rw [← hgx]
                        have z0 := cell_of_row wN gx 0 _ _ _ hxN
                        have z7 := cell_of_row wN gx 7 _ _ _ hxN
                        change _ = some (Value.int .u8 y.kind) at z0
                        change _ = some (Value.string y.target) at z7
                        clear hwN hgx hbN hxN y0 y1 y2 y3 y4 y5 y6 y7 y8 y9 ht0
                        have hlx := World.block_lt_of_cell? _ _ z0
                        dsimp only at hlx
                        go_cut [96] from 33 to 146 (fun s96 wx => s96 = .bool (y.kind == 3 && (!rest.isEmpty || follow || dirs)) ∧ wx = wN)
                        case first =>
                          clear HGE
                          cases hk3 : (y.kind == 3) with
                          | false =>
                            go_wp2
                            go_meet
                            exact ⟨by rw [hk3]; rfl, rfl⟩
                          | true =>
                            rcases rest with _ | ⟨r0, rest⟩
                            · cases follow <;> cases dirs
                              all_goals go_wp2
                              all_goals go_meet
                              all_goals exact ⟨by rw [hk3]; rfl, rfl⟩
                            · cases follow <;> cases dirs
                              all_goals go_wp2
                              all_goals go_meet
                              all_goals exact ⟨by rw [hk3]; rfl, rfl⟩
                        case rest =>
                          obtain ⟨rfl, hwx⟩ := hcut
                          obtain rfl : wN = _ := hwx.symm
                          cases hc3 : (y.kind == 3 && (!rest.isEmpty || follow || dirs)) with
                          | true =>
                            have HC3 := Lib.hid ((rcond3 _ _ _ _).1 hc3)
                            have hyt : 0 < y.target.size ∧ y.target.size ≤ 1024 := by have := link_bd HT.out hK0 hK1 (by rw [HKY.out.2]; exact HC3.out.1); rwa [HKY.out.2] at this
                            have hsum : IntKind.i64.wrap ((hops : Int) + 1) = (hops : Int) + 1 := IntWalk.i64_in _ (by omega)
                            by_cases h16 : 16 < hops + 1
                            · obtain rfl : R = (noPlace, 12) := by rw [← HGE.out, if_neg HKZ.out, if_pos HC3.out, if_pos h16]
                              have g16 : decide ((16 : Int) < (hops : Int) + 1) = true := decide_eq_true (by omega)
                              clear h16
                              have h8 := HIR.out.pl
                              go_wp2_with (refine wpList_store_rowTo rfl 122 _ _ rfl rfl b2 (PlaceV.cells (noPlace)) rfl rfl 122 _ h8 (by kernel_rfl) rfl (by simp [noPlace, PlaceV.cells, Value.oneCell']) ?_)
                              have h9 := setRow_heap _ b2 _ (PlaceV.cells (noPlace)) _ _ h8
                              have hL := run_loadVar_row (P := Tryz.prog) _ _ _ 122 _ _ _ h9 Tryz.underlying122 rfl (by kernel_rfl)
                              refine HQ2.out _ _ _ ?_
                              refine bodyPost_ret (v := .tuple #[PlaceV.val (noPlace), .int .i64 (12)]) (results_cell_tmp rfl rfl rfl hL) rfl ?_
                              exact ⟨rfl, below_setRow HBR.out hord.1 _⟩
                            · have HGE2 : Hid (inGo t u g follow gk (if y.target.data.toList.head? = some 47 then 1 else a) (partsOf y.target.data.toList ++ rest) (dirs || rest.isEmpty && slashEnd y.target.data.toList) (hops + 1) = R) := Lib.hid (by rw [← HGE.out, if_neg HKZ.out, if_pos HC3.out, if_neg h16])
                              have g16 : decide ((16 : Int) < (hops : Int) + 1) = false := decide_eq_false (by omega)
                              have HPT := parts_len y.target
                              have hM3 : hops + 1 ≤ 16 := by omega
                              have hM : (16 - (hops + 1)) * 1026 + (partsOf y.target.data.toList ++ rest).length < gk := by rw [List.length_append]; omega
                              have hM2 : (partsOf y.target.data.toList ++ rest).length + (16 - (hops + 1)) * 1026 ≤ 20000 := by rw [List.length_append]; omega
                              have hrl2 : rest.length ≤ 1000000 := by omega
                              have HDA3 : Hid (DirAt t (if y.target.data.toList.head? = some 47 then 1 else a)) := Lib.hid (by split; exact dirAt_root HT.out; exact HDA.out)
                              have hy6 : y.target.size ≤ 1000000 := by omega
                              have hy47 : y.target.size ≤ 140737488355328 := by omega
                              have hy1 : 0 < y.target.size := hyt.1
                              have hyn : ¬ y.target.toList = [] := fun e => by have := (toList_nil y.target).mp e; omega
                              have hye : y.target.toList.isEmpty = false := by simpa using hyn
                              have hfy := first_byte y.target hy1
                              obtain ⟨c47, hcn⟩ : ∃ b, y.target[0]'hy1 = b := ⟨_, rfl⟩
                              rw [hcn] at hfy
                              have hcc : (y.target[0]'hy1).toNat = c47.toNat := by rw [hcn]
                              have HFY := Lib.hid hfy
                              have HM := Lib.hid hM
                              have HM2 := Lib.hid hM2
                              have HPL := Lib.hid HPT
                              clear HGE HC3 hc3 HPT hM hM2 h16 hm hrl hfy hcn
                              go_upto_region 32 with fail
                              go_cut [107] from 33 to 146 (fun s107 wx => s107 = .bool (rest.isEmpty && slashEnd y.target.data.toList) ∧ wx = wN)
                              case first =>
                                rcases rest with _ | ⟨r0, rest⟩
                                · go_wp2_with (go_at_call 217; refine (refSlash_calls y.target hy47 _).mono ?_; rintro _ w5 ⟨rfl, hw5⟩; obtain rfl : wN = w5 := hw5.symm)
                                  go_meet
                                  exact ⟨rfl, rfl⟩
                                · go_wp2
                                  go_meet
                                  exact ⟨rfl, rfl⟩
                              case rest =>
                                obtain ⟨rfl, hwy⟩ := hcut
                                obtain rfl : wN = _ := hwy.symm
                                obtain ⟨sl, hsl⟩ : ∃ z, z = (rest.isEmpty && slashEnd y.target.data.toList) := ⟨_, rfl⟩
                                rw [← hsl] at HGE2
                                rw [← hsl]
                                clear hsl
                                go_upto_if 107 with fail
                                go_cut [12] from 33 to 146 (fun s12 wx => s12 = .bool (dirs || sl) ∧ wx = wN)
                                case first =>
                                  cases sl
                                  all_goals go_wp2
                                  all_goals go_meet
                                  all_goals exact ⟨by simp, rfl⟩
                                case rest =>
                                obtain ⟨rfl, hwz⟩ := hcut
                                obtain rfl : wN = _ := hwz.symm
                                obtain ⟨xs, AL, cL, hvL, -, hA0, hxsr, hsrcL⟩ := HSL.out
                                cases hvL
                                have hxl : xs.length ≤ 1000000 := by rw [← hxsr, List.length_map] at hrl2; exact hrl2
                                have HXR := Lib.hid hxsr
                                have HSR := Lib.hid hsrcL
                                clear hxsr hsrcL HSL
                                go_upto_region 35 with (first
                                  | (go_at_call 216; refine (refParts_calls y.target hy6 _).mono ?_; rintro _ w6 ⟨vp, ⟨rfl, ys, hown, hys⟩, hb6⟩; have hyl : ys.length ≤ 1000001 := (by rw [← List.length_map (f := fun x : ByteArray => x.data.toList), hys]; have := HPL.out; omega); have HY := Lib.hid hys; have HO := Lib.hid hown; have HB6 := Lib.hid hb6; have z7b := cell_keep hb6 z7; have HS2 : Hid (SrcAt w6 A0' (xs.map fun x => [Value.string x])) := Lib.hid (src_of_list hb6 HSR.out); clear hown hys hb6)
                                  | (at_builtin; refine wpList_append_many (W := wN) (A := A0') (m := xs.length) (c := c0') (by rfl) (.tmp 110) (.tmp 111) 33 (by rfl) elem_str ys.length (List.length_map _) (by simp [Act.eval]) HO.out HB6.out (xs.map fun x => [Value.string x]) (by simp [Act.eval]) hA0 (List.length_map _) (fun r hr => by obtain ⟨x, -, rfl⟩ := List.mem_map.1 hr; rfl) HS2.out (fun v hv => by rw [flat_single] at hv; obtain ⟨x, -, rfl⟩ := List.mem_map.1 hv; rfl) (by unfold maxLen; omega) (by omega) ?_; intro v6 w7 hown7 hb7 hg7 hv7; have HO7 := Lib.hid hown7; have HB7 := Lib.hid hb7; have HG7 := Lib.hid hg7; have z7c := hg7.cell z7b (fun e => absurd (HO.out.lt gx e.symm).1 (Nat.not_le_of_lt hlx)); clear hown7 hb7 hg7 hv7))
                                have HSL : Hid (StrList w7 b0 v6 (partsOf y.target.data.toList ++ rest)) := Lib.hid (own_list (B := wN.heap.size) ⟨ys ++ xs, by rw [List.map_append]; exact HO7.out, by rw [List.map_append, HY.out, HXR.out]⟩ hbl0)
                                replace HBR := Lib.hid (below_step HBR.out HB7.out)
                                replace HIR := Lib.hid (HIR.out.keep HB7.out)
                                replace hbl0 := below_lt HB7.out hbl0
                                clear z0 z7 z7b HB6 HB7 HO HO7 HS2 HSR HXR HY HG7 hA0
                                go_upto_if 116 with fail
                                go_cut [10] from 33 to 146 (fun s10 wx => s10 = .int .i64 (if y.target.data.toList.head? = some 47 then 1 else a) ∧ wx = w7)
                                case first =>
                                  by_cases h47 : c47 = 47
                                  · have e47 : ((c47.toNat : Int) == 47) = true := by rw [byte47]; simpa using h47
                                    have e47' : c47.toNat = 47 := by rw [h47]; rfl
                                    have HIF : Hid ((if y.target.data.toList.head? = some 47 then (1 : Int) else a) = 1) := Lib.hid (by rw [HFY.out, if_pos (by rw [h47])])
                                    clear h47
                                    go_wp2
                                    go_meet
                                    exact ⟨by rw [HIF.out], rfl⟩
                                  · have e47 : ((c47.toNat : Int) == 47) = false := by rw [byte47]; simpa using h47
                                    have e47' : ¬ c47.toNat = 47 := fun e => h47 (UInt8.toNat_inj.1 e)
                                    have HIF : Hid ((if y.target.data.toList.head? = some 47 then (1 : Int) else a) = a) := Lib.hid (by rw [HFY.out, if_neg (by simpa using h47)])
                                    clear h47
                                    go_wp2
                                    go_meet
                                    exact ⟨by rw [HIF.out], rfl⟩
                                case rest =>
                                obtain ⟨rfl, hwu⟩ := hcut
                                obtain rfl : w7 = _ := hwu.symm
                                obtain ⟨a2, ha2⟩ : ∃ z, z = (if y.target.data.toList.head? = some 47 then (1 : Int) else a) := ⟨_, rfl⟩
                                rw [← ha2] at HDA3 HGE2
                                rw [← ha2]
                                clear ha2
                                go_wp2
                                go_roundg gk
                                case measure => omega
                                case rel => exact ⟨_, v6, _, _, hops + 1, rfl, rfl, rfl, rfl, HSL, HDA3, HGE2, hM3, HM.out, HM2.out, HIR, HBR, hbl0⟩
                          | false =>
                            have HC3 : Hid (¬ (y.kind = 3 ∧ (rest ≠ [] ∨ follow = true ∨ dirs = true))) := Lib.hid (fun h => by rw [(rcond3 _ _ _ _).2 h] at hc3; cases hc3)
                            go_upto_region 37 with fail
                            go_cut [136] from 33 to 146 (fun s136 wx => s136 = .bool (rest.isEmpty && (y.kind != 1 || !dirs)) ∧ wx = wN)
                            case first =>
                              clear HGE HC3
                              rcases rest with _ | ⟨r0, rest⟩
                              · rcases hyk with hk | hk | hk
                                · have g1 : (y.kind == 1) = true := by rw [hk]; rfl
                                  have g2 : (y.kind == 2) = false := by rw [hk]; rfl
                                  have g3 : (y.kind == 3) = false := by rw [hk]; rfl
                                  have HK := Lib.hid hk
                                  clear hk
                                  cases dirs
                                  all_goals go_wp2
                                  all_goals go_meet
                                  all_goals exact ⟨by rw [HK.out]; rfl, rfl⟩
                                · have g1 : (y.kind == 1) = false := by rw [hk]; rfl
                                  have g2 : (y.kind == 2) = true := by rw [hk]; rfl
                                  have g3 : (y.kind == 3) = false := by rw [hk]; rfl
                                  have HK := Lib.hid hk
                                  clear hk
                                  cases dirs
                                  all_goals go_wp2
                                  all_goals go_meet
                                  all_goals exact ⟨by rw [HK.out]; rfl, rfl⟩
                                · have g1 : (y.kind == 1) = false := by rw [hk]; rfl
                                  have g2 : (y.kind == 2) = false := by rw [hk]; rfl
                                  have g3 : (y.kind == 3) = true := by rw [hk]; rfl
                                  have HK := Lib.hid hk
                                  clear hk
                                  cases dirs
                                  all_goals go_wp2
                                  all_goals go_meet
                                  all_goals exact ⟨by rw [HK.out]; rfl, rfl⟩
                              · go_wp2
                                go_meet
                                exact ⟨rfl, rfl⟩
                            case rest =>
                              obtain ⟨rfl, hwx2⟩ := hcut
                              obtain rfl : wN = _ := hwx2.symm
                              cases hc1 : (rest.isEmpty && (y.kind != 1 || !dirs)) with
                              | true =>
                                obtain rfl : R = (⟨a, s, K, dirs⟩, 0) := by rw [← HGE.out, if_neg HKZ.out, if_neg HC3.out, if_pos ((rcond1 _ _ _).1 hc1)]
                                have h8 := HIR.out.pl
                                go_wp2_with (refine wpList_store_rowTo rfl 122 _ _ rfl rfl b2 (#[.int .i64 a, .string x, .int .i64 K, .bool dirs]) rfl rfl 122 _ h8 (by kernel_rfl) rfl (by simp [Value.oneCell']) ?_)
                                have h9 := setRow_heap _ b2 _ (#[.int .i64 a, .string x, .int .i64 K, .bool dirs]) _ _ h8
                                have hL := run_loadVar_row (P := Tryz.prog) _ _ _ 122 _ _ _ h9 Tryz.underlying122 rfl (by kernel_rfl)
                                refine HQ2.out _ _ _ ?_
                                refine bodyPost_ret (v := .tuple #[.agg (#[.int .i64 a, .string x, .int .i64 K, .bool dirs]), .int .i64 0]) (results_cell_tmp rfl rfl rfl hL) rfl ?_
                                exact ⟨by rw [← HS.out]; rfl, below_setRow HBR.out hord.1 _⟩
                              | false =>
                                have HC1 : Hid (¬ (rest = [] ∧ (y.kind ≠ 1 ∨ dirs = false))) := Lib.hid (fun h => by rw [(rcond1 _ _ _).2 h] at hc1; cases hc1)
                                by_cases h2 : y.kind = 2
                                · have g2 : (y.kind != 2) = false := by rw [h2]; rfl
                                  have HGE2 : Hid (inGo t u g follow gk K rest dirs hops = R) := Lib.hid (by rw [← HGE.out, if_neg HKZ.out, if_neg HC3.out, if_neg HC1.out, if_neg (by rw [h2]; simp)])
                                  have HDK : Hid (DirAt t K) := Lib.hid ⟨by have := HKZ.out; omega, hK1, by rw [HKY.out.2, h2]⟩
                                  clear HGE HC3 HC1 h2
                                  go_wp2
                                  go_roundg gk
                                  case measure => omega
                                  case rel => exact ⟨K, _, rest, dirs, hops, rfl, rfl, rfl, rfl, HSL, HDK, HGE2, hh, by omega, by omega, HIR, HBR, hbl0⟩
                                · have g2 : (y.kind != 2) = true := bne_iff_ne.2 h2
                                  obtain rfl : R = (noPlace, 9) := by rw [← HGE.out, if_neg HKZ.out, if_neg HC3.out, if_neg HC1.out, if_pos h2]
                                  have h8 := HIR.out.pl
                                  go_wp2_with (refine wpList_store_rowTo rfl 122 _ _ rfl rfl b2 (PlaceV.cells (noPlace)) rfl rfl 122 _ h8 (by kernel_rfl) rfl (by simp [noPlace, PlaceV.cells, Value.oneCell']) ?_)
                                  have h9 := setRow_heap _ b2 _ (PlaceV.cells (noPlace)) _ _ h8
                                  have hL := run_loadVar_row (P := Tryz.prog) _ _ _ 122 _ _ _ h9 Tryz.underlying122 rfl (by kernel_rfl)
                                  refine HQ2.out _ _ _ ?_
                                  refine bodyPost_ret (v := .tuple #[PlaceV.val (noPlace), .int .i64 (9)]) (results_cell_tmp rfl rfl rfl hL) rfl ?_
                                  exact ⟨rfl, below_setRow HBR.out hord.1 _⟩
end Go.Proofs.YtbfcfjgcmideeaaGreatDoor
