/- tree.Path: a directory's path. -/
import Derived.Test.YtdceechakocgfaaGreatDoorM4
import Derived.Test.YtdceechakocgfaaGreatDoorShelf
import Derived.OwnWalk
import Derived.Maps.AppendAt
import Derived.Lib.RowBridge
import Derived.Lib.EndianMore
import Derived.Laws.IdiomCopy
namespace Go.Proofs.YtdceechakocgfaaGreatDoor
open Go.RowKit
attribute [local go_sem] Later.cell_eq
theorem path1_calls (s : ByteArray) (n d : Int) (p : Addr) (w : World) (hd : w.cell? p = some (.int .i64 d)) :
    Calls Tryz.prog 130 #[.agg #[.string s, .int .i64 n], .pointer (some p)] w fun e w' => e = .returned (.bool (n == d)) ∧ Below w.heap.size w w' := by
  have hl := World.block_lt_of_cell? _ _ hd
  obtain ⟨b, o, sp⟩ := p
  dsimp only at hl
  have h1 := cell_new hd (.cells #[.string s, .int .i64 n] 122)
  go_enter Tryz.func130, Tryz.ntmps130
  go_wp2
  go_ret
  exact ⟨rfl, (by repeat (first | exact Below.refl _ _ | assumption | refine Below.drew ?_ | refine below_drewN ?_ _ | refine below_alloc ?_ _ | refine below_set ?_ (by simp) _ | refine below_step ?_ (by assumption)))⟩
set_option maxHeartbeats 1000000 in
set_option maxRecDepth 100000 in
/-- The first entry of a node. -/
theorem indexFunc_calls (l : List TEnt) (hl : l.length ≤ 1000000) (d : Int) (p : Addr) (A : Option Addr) (c : Nat) (w : World) (hd : w.cell? p = some (.int .i64 d)) (hA : EntsAt w A l) (hex : ∃ e ∈ l, e.node = d) :
    Calls Tryz.prog 129 #[.slice A l.length c, .func (.func 130) #[] #[.pointer (some p)]] w
      fun e w' => (∃ i : Nat, ∃ f, e = .returned (.int .i64 i) ∧ l[i]? = some f ∧ l.find? (fun e => e.node == d) = some f) ∧ Below w.heap.size w w' := by
  have HA := Lib.hid hA
  have HX := Lib.hid hex
  have HD := Lib.hid hd
  clear hA hex hd
  go_enter Tryz.func129, Tryz.ntmps129
  go_wp2
  go_loopg [8] l.length (fun g s8 wr => ∃ i : Nat, i + g = l.length ∧ s8 = .int .i64 i ∧ Below w.heap.size w wr ∧ Hid (∀ j f, j < i → l[j]? = some f → f.node ≠ d))
  case atStart => exact ⟨0, by omega, rfl, Below.refl _ _, fun j f h => absurd h (by omega)⟩
  case round =>
    obtain ⟨i, hg, rfl, hb, hno⟩ := hrel
    cases gk with
    | zero =>
      exfalso
      obtain ⟨e, he, hed⟩ := HX.out
      obtain ⟨j, hj⟩ := List.getElem?_of_mem he
      exact hno.out j e (by have := (List.getElem?_eq_some_iff.1 hj).1; omega) hj hed
    | succ g =>
      obtain ⟨e, he⟩ : ∃ e, l[i]? = some e := ⟨l[i]'(by omega), by simp⟩
      obtain ⟨b, o, rfl, e0, e1⟩ := HA.out i e he
      replace e0 := cell_keep hb e0
      replace e1 := cell_keep hb e1
      have HE := Lib.hid he
      clear he
      by_cases h : e.node = d
      · have h' : (e.node == d) = true := beq_iff_eq.2 h
        have HF : Hid (l.find? (fun e => e.node == d) = some e) := by
          show _ = _
          rw [List.find?_eq_some_iff_getElem]
          refine ⟨h', i, (List.getElem?_eq_some_iff.1 HE.out).1, (List.getElem?_eq_some_iff.1 HE.out).2, fun j hj => ?_⟩
          have := hno.out j l[j] hj (by simp)
          simpa using this
        have H := Lib.hid h
        clear h
        go_wp2_with (go_at_call 130; refine (path1_calls _ _ d _ _ (cell_keep hb HD.out)).mono ?_; rintro _ w1 ⟨rfl, hb1⟩)
        go_ret
        exact ⟨⟨i, e, rfl, HE.out, HF.out⟩, below_step hb hb1⟩
      · have h' : (e.node == d) = false := beq_eq_false_iff_ne.2 h
        have H := Lib.hid h
        clear h
        go_wp2_with (go_at_call 130; refine (path1_calls _ _ d _ _ (cell_keep hb HD.out)).mono ?_; rintro _ w1 ⟨rfl, hb1⟩)
        go_roundg g
        case measure => omega
        case rel =>
          refine ⟨i + 1, by omega, by go_num, below_step hb hb1, fun j f hj hf => ?_⟩
          by_cases c : j = i
          · subst c; rw [HE.out] at hf; cases hf; exact H.out
          · exact hno.out j f (by omega) hf

theorem own_below {w w1 : World} {base : Nat} {e : TypeId} {size n : Nat} {v : Value} {xs : List Value} (h : w.ownsRow base e size v n xs) (hb : Below w.heap.size w w1) : w1.ownsRow base e size v n xs :=
  h.kept (row := none) ⟨hb.os, hb.tape, hb.output, hb.size, fun i hi _ => hb.block i hi⟩ (by cases v.ownBlock <;> simp)
theorem own_row_ge {w : World} {base : Nat} {e : TypeId} {size n : Nat} {v : Value} {xs : List Value} (h : w.ownsRow base e size v n xs) : ∀ k, v.ownBlock = some k → base ≤ k := fun k hk => (h.lt k hk).1
theorem str_info : (Tryz.prog.info? 9).map (fun i => (i.zero, i.size, i.bytes)) = some (some (.string ⟨#[]⟩), 1, 16) := by kernel_rfl
theorem bytes_cons (x : UInt8) (l : List UInt8) : (⟨#[x]⟩ ++ ⟨l.toArray⟩ : ByteArray) = ⟨(x :: l).toArray⟩ := by
  apply ByteArray.ext
  simp
theorem sz_setCells (b : Nat) : ∀ (vs : List Value) (o : Nat) (w : World), (w.setCells b o vs).heap.size = w.heap.size
  | [], _, _ => rfl
  | v :: vs, o, w => by rw [World.setCells, sz_setCells b vs]; simp [World.setCell]
theorem rev_calls (g cap : Nat) (l : List ByteArray) (w : World) (hc : ∀ (j : Nat) x, l[j]? = some x → w.cell? ⟨g, j, none⟩ = some (.string x)) (hf : ∀ j, w.frozen? ⟨g, j, none⟩ = false) (hl : l.length ≤ 1000000) (B : Nat) (hB : B ≤ g) {a : World} (hb : Below B a w) :
    Calls Tryz.prog 131 #[.slice (some ⟨g, 0, none⟩) l.length cap] w fun e w' => e = .returned (.tuple #[]) ∧ Below B a w' ∧ w'.heap.size = w.heap.size ∧ ∀ (j : Nat) x, l.reverse[j]? = some x → w'.cell? ⟨g, 0 + j, none⟩ = some (.string x) := by
  have hcs : ∀ i, i < l.length → w.cell? ⟨g, 0 + i, none⟩ = some (.string (l[i]?.getD ⟨#[]⟩)) := fun i hi => by rw [Nat.zero_add, hc i l[i] (by simp)]; simp [hi]
  refine (Tryz.slices_Reverse_string_cells g 0 l.length cap (fun i => l[i]?.getD ⟨#[]⟩) w (by omega) hcs (fun j _ => hf _)).mono ?_
  rintro _ _ ⟨rfl, q, rfl⟩
  have hle : (Go.Lib.strsOf (fun i => l[i]?.getD ⟨#[]⟩) l.length).reverse = l.reverse.map (·.data.toList) := by
    rw [List.map_reverse]; congr 1
    unfold Go.Lib.strsOf
    apply List.ext_getElem
    · simp
    · intro i h1 h2; simp at h1; simp [h1]
  refine ⟨rfl, ?_, by rw [sz_setCells]; simp, fun j x hj => ?_⟩
  · have : Below B (w.drewN q) ((w.drewN q).setCells g 0 ((Go.Lib.strsOf (fun i => l[i]?.getD ⟨#[]⟩) l.length).reverse.map encStr)) := Go.Lib.below_setCells_w hB _ _ _
    exact (below_drewN hb q).trans this
  · have hjl : j < l.length := by simpa using (List.getElem?_eq_some_iff.1 hj).1
    rw [hle, World.cell?_setCells_in g _ 0 (w.drewN q) (fun t ht => by
      show (w.cell? ⟨g, 0 + t, none⟩).isSome = true
      rw [hcs t (by simpa using ht)]; rfl) j (by simpa using hjl)]
    simp [encStr]
    have := (List.getElem?_eq_some_iff.1 hj).2
    simp at this
    rw [this]
theorem join_calls (g cap n : Nat) (l : List ByteArray) (hnl : n = l.length) (w : World) (hc : ∀ (j : Nat) x, l[j]? = some x → w.cell? ⟨g, 0 + j, none⟩ = some (.string x)) (hg : g < w.heap.size) (hl : l.length ≤ 1000000) (hle : l.length ≤ cap) (hs : ∀ s ∈ l, nameOK s = true) :
    Calls Tryz.prog 132 #[.slice (some ⟨g, 0, none⟩) n cap, .string ⟨#[47]⟩] w fun e w' => e = .returned (.string ⟨(Go.Lib.join (l.map (·.data.toList)) [47]).toArray⟩) ∧ Below w.heap.size w w' :=
  hnl ▸ Tryz.strings_Join g 0 cap l ⟨#[47]⟩ w hc hg (by omega) hle (by
    have := join_le (l.map (·.data.toList)) 64 (fun x hx => by
      obtain ⟨s, h1, rfl⟩ := List.mem_map.mp hx
      exact (nameOK_size (hs s h1)).2)
    rw [List.length_map] at this
    show (Go.Lib.join (l.map (·.data.toList)) [47]).length ≤ _
    omega)
set_option maxHeartbeats 4000000 in
set_option maxRecDepth 100000 in
theorem path_yes (t : TTree) (hF : t.Fits) (d : Int) (A : Option Addr) (c : Nat) (w : World) (hA : NodesAt w A t.nodes) (hd : isDirB t d = true) :
    Calls Tryz.prog 75 #[.agg #[.slice A t.nodes.length c, .int .i64 t.now], .int .i64 d] w fun e w' => e = .returned (.tuple #[.string ⟨(pathOf (climb t 32 d)).toArray⟩, .int .i64 0]) ∧ Below w.heap.size w w' := by
  have hD := (isDirB_iff t d).mp hd
  have HD := Lib.hid hD
  have HU := Lib.hid (hD.1.up hD.2.1 hD.2.2.1 hD.2.2.2)
  have HF := Lib.hid hF
  have HA := Lib.hid hA
  have HO := Lib.hid hd
  clear hd hD hF hA
  obtain ⟨i0, hi, hz0, hz1, hz2⟩ := info_parts str_info
  go_enter Tryz.func75, Tryz.ntmps75
  go_upto_region 4 with (go_at_call 128; refine (isDir_calls t HF.out _ _ _ _ (HA.out.keep (below_alloc (below_alloc (Below.refl _ _) _) _))).mono ?_; rintro _ w1 ⟨rfl, hb1⟩; rw [HO.out])
  have k0 : w1.cell? ⟨w.heap.size, 0, none⟩ = some (.slice A t.nodes.length c) := cell_keep hb1 (by simp [go_sem])
  have k3 : w1.heap[w.heap.size + 1]? = some (.cells #[.int .i64 d] 3 (0, 0)) := (hb1.block _ (by simp)).trans (heap_alloc2_new _ _ _)
  have hz : w.heap.size + 2 ≤ w1.heap.size := by have := hb1.size; simp at this; omega
  have hbw := below_step (below_alloc (below_alloc (Below.refl _ _) _) _) hb1
  have hown : w1.ownsRow (w.heap.size + 2) 9 1 (.slice none 0 0) ([] : List ByteArray).length (([] : List ByteArray).map Value.string) := World.ownsRow_nil _ _ _ _
  clear hb1
  go_loopg [6] 32 (fun g s6 wr => ∃ x : Int, ∃ names : List ByteArray, wr.ownsRow (w.heap.size + 2) 9 1 s6 names.length (names.map Value.string) ∧ wr.heap[w.heap.size + 1]? = some (.cells #[.int .i64 x] 3 (0, 0)) ∧ wr.cell? ⟨w.heap.size, 0, none⟩ = some (.slice A t.nodes.length c) ∧ Below w.heap.size w wr ∧ w.heap.size + 2 ≤ wr.heap.size ∧ Hid (upB t g x = true) ∧ Hid (names ++ climb t g x = climb t 32 d) ∧ names.length + g ≤ 32)
  case atStart => exact ⟨d, [], hown, k3, k0, hbw, hz, HU.out, rfl, by simp⟩
  case round =>
    clear hown k3 k0 hbw hz
    obtain ⟨x, names, hown, k3, k0, hb, hz, hu, hcl, hlen⟩ := hrel
    have kx := cell_of_one k3
    have kf := free_of_one k3
    have hzl := World.block_lt_of_cell? _ _ k0
    dsimp only at hzl
    have hz3 : w.heap.size + 1 < wr.heap.size := by omega
    by_cases h1 : x = 1
    · subst h1
      have g1 : ((1 : Int) != 1) = false := rfl
      have HC : Hid (names = climb t 32 d) := by have := hcl.out; rw [climb_one] at this; show _ = _; simpa using this
      obtain ⟨hlen1, ⟨hv, hn⟩ | ⟨g', cap, cur, hv, hg, hh, hle, hm, hs, htake⟩⟩ := hown
      · subst hv
        have hn0 : names = [] := by simpa using hn
        subst hn0
        clear hlen1 hcl
        go_wp2_with (first
          | (go_at_call 131; refine (Tryz.slices_Reverse_string_empty none 0 _).mono ?_; rintro _ w1 ⟨rfl, rfl⟩)
          | (go_at_call 132; refine (Tryz.strings_Join_none none 0 _ _).mono ?_; rintro _ w1 ⟨rfl, rfl⟩))
        go_ret2
        refine ⟨?_, hb⟩
        rw [← HC.out]; rfl
      · subst hv
        have hca : ∀ (j : Nat) x, names[j]? = some x → wr.cell? ⟨g', j, none⟩ = some (.string x) := fun j x hj => by
          rw [cell_of_row wr g' j cur _ (0, 0) hh]
          have : (names.map Value.string)[j]? = some (.string x) := by simp [hj]
          rw [← htake, List.getElem?_take] at this
          split at this
          · simpa using this
          · cases this
        have hfr := fun j => frozen_of_row wr g' j cur _ hh
        have HL : Hid (∀ s ∈ names, nameOK s = true) := by rw [HC.out]; exact climb_small HD.out.1 _ _ HU.out
        have hgl : g' < wr.heap.size := (Array.getElem?_eq_some_iff.1 hh).1
        have HLR : Hid (∀ s ∈ names.reverse, nameOK s = true) := fun s hs => HL.out s (List.mem_reverse.1 hs)
        have hnr : names.length = names.reverse.length := List.length_reverse.symm
        have hnr2 : names.reverse.length ≤ 1000000 := by omega
        have hnr3 : names.reverse.length ≤ cap := by omega
        have hjl : ¬ (9223372036854775807 < 1 + (Go.Lib.join (names.map (·.data.toList)).reverse [47]).length) := by
          have := join_le (names.map (·.data.toList)).reverse 64 (fun x hx => by
            obtain ⟨s, h1, rfl⟩ := List.mem_map.mp (List.mem_reverse.1 hx)
            exact (nameOK_size (HL.out s h1)).2)
          rw [List.length_reverse, List.length_map] at this
          omega
        have HR := Lib.hid hnr
        have HC1 := Lib.hid hca
        have HFR := Lib.hid hfr
        clear hlen1 hcl hh htake hs hnr hca hfr hm
        go_wp2_with (first
          | (go_at_call 131; refine (rev_calls g' cap names _ HC1.out HFR.out (by omega) w.heap.size (by omega) hb).mono ?_; rintro _ w1 ⟨rfl, hb1, hlt1, hc1⟩; replace hgl : g' < w1.heap.size := (by omega); replace hc1 := Lib.hid hc1; clear hlt1)
          | (go_at_call 132; refine (join_calls g' cap _ names.reverse HR.out _ hc1.out hgl hnr2 hnr3 HLR.out).mono ?_; rintro _ w2 ⟨rfl, hb2⟩))
        go_ret2
        refine ⟨?_, below_step hb1 hb2⟩
        rw [← HC.out]
        show Ending.returned (.tuple #[.string (⟨#[47]⟩ ++ ⟨(Go.Lib.join (names.map (·.data.toList)).reverse [47]).toArray⟩), .int .i64 0]) = _
        rw [pathOf, List.map_reverse, bytes_cons]
    · obtain ⟨j, hj, hx1, hx2, hxk, hxu⟩ := upB_next hu.out h1
      subst hj
      have g1 : (x != 1) = true := by simp [h1]
      obtain ⟨y, hy⟩ : ∃ y, t.nodes[x.toNat]? = some y := ⟨t.nodes[x.toNat]'(by omega), by simp⟩
      have hat := at_eq hy
      obtain ⟨i, n, e, hn, he, hen, hp, hnm, hfind⟩ := nameOf_spec HD.out.1 hx1 hx2 hxk
      rw [hat] at hp
      obtain ⟨b, o, Dx, cdx, Lx, clx, hA1, -, -, -, -, -, -, -, -, -, -, -, -, -, y9⟩ := HA.out.get hy
      subst hA1
      obtain ⟨b', o', Dn, cdn, Ln, cln, hA2, -, -, -, hEn, -, -, -, -, -, -, -, -, n8, -⟩ := HA.out.get hn
      cases hA2
      rw [hp] at y9
      have hbl0 := World.block_lt_of_cell? _ _ y9
      dsimp only at hbl0
      replace y9 := cell_keep hb y9
      replace n8 := cell_keep hb n8
      have hbl := below_lt hb hbl0
      have hil : i < t.nodes.length := (List.getElem?_eq_some_iff.1 hn).1
      have h0 : 0 ≤ x := by omega
      have hll := (HD.out.1).listed i n hn
      have HEX : Hid (∃ e ∈ n.list, e.node = x) := ⟨e, he, hen⟩
      have HCL : Hid ((names ++ [e.name]) ++ climb t j i = climb t 32 d) := by
        have := hcl.out
        rw [climb, if_neg h1, hat, hp, hnm] at this
        show _ = _
        rw [← this]; simp
      have HXU : Hid (upB t j i = true) := by rw [hat, hp] at hxu; exact hxu
      have HFI := Lib.hid hfind
      have HN := Lib.hid hn
      have HE := Lib.hid hEn
      have hlr := hll.2
      clear hn he hen hp hnm hfind hat hy hxu hxk hcl hu h1 hll hEn
      go_upto_region 7 with fail
      refine wp_region_later (by kernel_rfl) (by kernel_rfl) ?_
      repeat (go_big_quiet_step (fail))
      refine wpQuiet_nil ?_
      intro wL hbL
      have hbw := below_step hb hbL
      replace k0 := cell_keep hbL k0
      replace k3 := (hbL.block (w.heap.size + 1) hz3).trans k3
      replace kx := cell_of_one k3
      replace kf := free_of_one k3
      replace y9 := cell_keep hbL y9
      replace hz := Nat.le_trans hz hbL.size
      have hown1 := own_below hown hbL
      clear hown
      go_upto_region 5 with (first
        | (go_at_call 129; refine (indexFunc_calls n.list hlr x ⟨w.heap.size + 1, 0, none⟩ _ _ _ kx (HE.out.keep hbw) HEX.out).mono ?_; rintro _ w2 ⟨⟨ii, f, rfl, hif, hff⟩, hb2⟩; obtain ⟨b2, o2, hA2, e0, e1⟩ := HE.out ii f hif; subst hA2; replace e0 := cell_keep hb2 (cell_keep hbw e0); have hil2 := (List.getElem?_eq_some_iff.1 hif).1; have HIF := Lib.hid hif; have HFF := Lib.hid hff; have hown2 := own_below hown1 hb2; clear hif hff e1 hown1)
        | (at_builtin; refine wpList_append_own _ rfl _ _ 54 rfl (w.heap.size + 2) 9 i0 (.string ⟨#[]⟩) 1 16 Tryz.underlying54 hi hz0 hz1 hz2 rfl (by decide) _ _ _ rfl (hown2.alloc _) ⟨w2.heap.size, 0, none⟩ 1 1 [.string f.name] rfl rfl ?c1 ?c2 ?c3 ?c4 ?c5 ?_; (case c1 => exact cell_one_new _ _ _); (case c2 => simp [Value.oneCell']); (case c3 => unfold maxLen; omega); (case c4 => omega); (case c5 => have := hb2.size; simp; omega); intro v' w3 hown3 hgrow _))
      have hgr : (w2.alloc (.cells #[.string f.name] 9)).grownBy w3 u6.ownBlock := hgrow
      clear hgrow
      have hrow := own_row_ge hown2
      have hs2 := hb2.size
      have hB : Below (w.heap.size + 2) wL w3 := ((hb2.mono hz).alloc (by omega) _).grown hgr (by simp; omega) hrow
      have HB3 := hbw.trans (hB.mono (by omega))
      have hz4 : w.heap.size + 1 < wL.heap.size := by omega
      replace k0 := (hB.cell (by simp)).trans k0
      replace k3 := (hB.block (w.heap.size + 1) (by omega)).trans k3
      replace y9 := (hB.cell (by simp; omega)).trans y9
      replace kx := cell_of_one k3
      replace kf := free_of_one k3
      have hbl3 : b < w3.heap.size := below_lt HB3 hbl0
      have hz5 : w.heap.size + 2 ≤ w3.heap.size := by have := hB.size; omega
      have hz6 : w.heap.size + 1 < w3.heap.size := by omega
      have hz7 : w.heap.size < w3.heap.size := by omega
      have hef : f = e := by have := HFF.out; rw [HFI.out] at this; cases this; rfl
      subst hef
      clear hB hgr hrow hbL e0 HEX HE hbw hs2 hb2
      go_wp2
      go_roundg j
      case measure => omega
      case rel =>
        refine ⟨(i : Int), names ++ [f.name], ?_, ?_, ?_, ?_, ?_, HXU, HCL, ?_⟩
        · have := ownsRow_setCell_below hown3 (a := ⟨w.heap.size + 1, 0, none⟩) (by simp) (.int .i64 (i : Int))
          simpa using this
        · simp [World.setCell, Array.getElem?_modify, k3]
        · exact cell_set k0 (by simp)
        · exact HB3.setCell (by simp) _
        · simpa using hz5
        · simp; omega
set_option maxHeartbeats 1000000 in
theorem path_no (t : TTree) (hF : t.Fits) (d : Int) (A : Option Addr) (c : Nat) (w : World) (hA : NodesAt w A t.nodes) (hd : isDirB t d = false) :
    Calls Tryz.prog 75 #[.agg #[.slice A t.nodes.length c, .int .i64 t.now], .int .i64 d] w fun e w' => e = .returned (.tuple #[.string ⟨#[]⟩, .int .i64 1]) ∧ Below w.heap.size w w' := by
  have HF := Lib.hid hF
  have HA := Lib.hid hA
  have HO := Lib.hid hd
  clear hd hF hA
  go_enter Tryz.func75, Tryz.ntmps75
  go_wp2_with (go_at_call 128; refine (isDir_calls t HF.out _ _ _ _ (HA.out.keep (below_alloc (below_alloc (Below.refl _ _) _) _))).mono ?_; rintro _ w1 ⟨rfl, hb1⟩; rw [HO.out])
  go_ret2
  exact ⟨rfl, below_step (below_alloc (below_alloc (Below.refl _ _) _) _) hb1⟩
theorem path_calls (t : TTree) (hF : t.Fits) (d : Int) (A : Option Addr) (c : Nat) (w : World) (hA : NodesAt w A t.nodes) :
    Calls Tryz.prog 75 #[.agg #[.slice A t.nodes.length c, .int .i64 t.now], .int .i64 d] w fun e w' => e = .returned (.tuple #[.string (tPath t d), .int .i64 (tPathE t d)]) ∧ Below w.heap.size w w' := by
  unfold tPath tPathE
  cases h : isDirB t d with
  | true => simpa using path_yes t hF d A c w hA h
  | false => simpa using path_no t hF d A c w hA h
end Go.Proofs.YtdceechakocgfaaGreatDoor
