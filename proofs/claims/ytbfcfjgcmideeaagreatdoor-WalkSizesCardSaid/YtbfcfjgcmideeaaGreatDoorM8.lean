/- A tree among the arguments, opened to its nodes: what it weighs, how it lies. -/
/- What every law's row needs: the arguments opened, the post closed. -/
/- An argument that is a tree, somebody, a path, and a last word: opened. -/
import Derived.Test.YtbfcfjgcmideeaaGreatDoorPerms
import Derived.Deep.Slices
import Derived.Deep.Fields
import Derived.ChangeSame
import Derived.ProofKit
import Derived.SizedLaws
import Derived.Carry
import Derived.OpenShut
import Derived.WideKeyArgs
import Derived.Lib.SmallJoins
namespace Go.Proofs.YtbfcfjgcmideeaaGreatDoor
open Go.ChangeShapes Go.WideShapes Go.ChangeAt Go.RowKit Go.Deep
section
variable {H : Type} {enc : TypeId × Value → H} {P : Program} {w : World} {base : Nat} {spare : Nat → Bool} {held : Bool}
def Weighed (P : Program) (t : TypeId) (d : DataW H) : Prop := ∀ n ∈ d.weights P t, n ≤ reachBytes
theorem Weighed.all {e : TypeId} : ∀ {ds : List (DataW H)}, (∀ n ∈ DataW.weightsAll P e ds, n ≤ reachBytes) → ∀ d ∈ ds, Weighed P e d
  | [], _, d, hd => by cases hd
  | x :: r, h, d, hd => by
    simp only [DataW.weightsAll, List.mem_append] at h
    rcases List.mem_cons.1 hd with rfl | hd
    · exact fun n hn => h n (Or.inl hn)
    · exact Weighed.all (fun n hn => h n (Or.inr hn)) d hd
theorem Weighed.slice {t e : TypeId} {elems sp : List (DataW H)} (h : Weighed P t (.slice elems sp)) (hu : P.underlying t = some (.slice e)) :
    (elems.length + sp.length) * P.bytesOf e ≤ reachBytes ∧ ∀ d ∈ elems, Weighed P e d := by
  unfold Weighed at h
  simp only [DataW.weights, hu, List.mem_cons, List.mem_append] at h
  exact ⟨h _ (Or.inl rfl), Weighed.all (fun n hn => h n (Or.inr (Or.inl hn)))⟩
theorem Weighed.field {t : TypeId} {fs : Array Field} {parts : List (DataW H)} (h : Weighed P t (.agg parts)) (hu : P.underlying t = some (.struct fs)) {j : Nat} {f : Field} {d : DataW H} (hf : fs[j]? = some f) (hd : parts[j]? = some d) : Weighed P f.type d := by
  unfold Weighed at h
  simp only [DataW.weights, hu] at h
  exact fun n hn => h n (DataW.weights_mem_each (j := j) (by simp [hf]) hd n hn)
theorem Weighed.string {t : TypeId} {l : List UInt8} (h : Weighed P t (.lit (.string l) : DataW H)) : l.length ≤ reachBytes := h _ (by simp [DataW.weights])
theorem fields_of {e : TypeId} {fs : Array Field} {n : Nat} {a : Addr} {cs' : List Value} {D : DataW H} {Pl : List MemPlace} (he : P.underlying e = some (.struct fs)) (hone : oneCellFields P fs = true) (hC : P.cellsOf e = fs.size)
    (hc : w.cells? base a (P.cellsOf e) = some cs') (ht : DataW.trod enc P w base spare held n e cs' = some (D, Pl)) :
    ∃ (ys : List (DataW H × List MemPlace)) (k : Nat), D = .agg (ys.map (·.1)) ∧ ys.length = fs.size ∧
      ∀ (j : Nat) (f : Field), fs[j]? = some f → ∃ (v : Value) (y : DataW H × List MemPlace), w.cell? (a.add j) = some v ∧ ys[j]? = some y ∧ DataW.trod enc P w base spare held k f.type [v] = some y := by
  obtain ⟨ys, k, _, hy, hlen, hyl, hf⟩ := DataW.trod_struct he ht
  obtain ⟨_, hcl, hat⟩ := World.cells?_some hc
  simp only [Prod.mk.injEq] at hy
  refine ⟨ys, k, hy.1, hyl, fun j f hj => ?_⟩
  obtain ⟨ho, hk⟩ := hone_of hone j f hj
  have hjl : j < fs.size := (Array.getElem?_eq_some_iff.1 hj).1
  have hcell := hat j (by omega)
  have h1 := hf j f hj
  rw [ho, hk, List.drop_eq_getElem_cons (by omega)] at h1
  have hys : ys[j]? = some (ys[j]'(by omega)) := List.getElem?_eq_getElem (by omega)
  refine ⟨cs'[j]'(by omega), _, ?_, hys, ?_⟩
  · rw [hcell, List.getElem?_eq_getElem (by omega)]
  · rw [← hys, ← h1]; rfl
theorem wf_i64 {q : Int} (h : (Lit.int .i64 q).wf = true) : I64 q := by
  simp [Lit.wf, IntKind.min, IntKind.max, IntKind.signed, IntKind.bits] at h
  unfold I64; omega
theorem wf_u8 {q : Int} (h : (Lit.int .u8 q).wf = true) : 0 ≤ q ∧ q ≤ 255 := by
  simp [Lit.wf, IntKind.min, IntKind.max, IntKind.signed, IntKind.bits] at h
  omega
theorem list_of {α : Type} {n : Nat} {Q : Nat → α → Prop} (h : ∀ i, i < n → ∃ e, Q i e) : ∃ l : List α, l.length = n ∧ ∀ i e, l[i]? = some e → Q i e := by
  induction n with
  | zero => exact ⟨[], rfl, fun i e hi => by simp at hi⟩
  | succ n ih =>
    obtain ⟨l, hl, hq⟩ := ih fun i hi => h i (by omega)
    obtain ⟨e, he⟩ := h n (by omega)
    refine ⟨l ++ [e], by simp [hl], fun i x hx => ?_⟩
    by_cases hi : i < l.length
    · rw [List.getElem?_append_left hi] at hx; exact hq i x hx
    · have hin : i = n := by have := (List.getElem?_eq_some_iff.1 hx).1; simp at this; omega
      subst hin
      rw [List.getElem?_append_right (by omega), hl, Nat.sub_self] at hx
      cases hx
      exact he
theorem add_plain {a : Addr} {n : Nat} (h : a.spot = none) : a.add n = ⟨a.block, a.off + n, none⟩ := by
  obtain ⟨b, o, sp⟩ := a
  dsimp only at h
  subst h
  unfold Addr.add
  split <;> simp_all
theorem ents_open {n : Nat} {v : Value} {y : DataW H × List MemPlace} (h : DataW.trod enc Tryz.prog w base spare held n 78 [v] = some y) (hw : Weighed Tryz.prog 78 y.1) :
    ∃ A cl, ∃ l : List TEnt, v = .slice A l.length cl ∧ l.length ≤ cl ∧ EntsAt w A l ∧ l.length ≤ 140737488355328 ∧ ∀ e ∈ l, e.Fits := by
  rcases open_slice Tryz.underlying78 h with ⟨hv, -⟩ | ⟨a, len, cap, m, k, D, Pl, hv, -, hlc, -, hm, hx, hi⟩
  · cases hv; exact ⟨none, 0, [], rfl, Nat.le_refl _, fun k e hk => by simp at hk, by simp, fun e he => by cases he⟩
  · cases hv
    subst hx
    obtain ⟨hsz, hel⟩ := hw.slice Tryz.underlying78
    rw [show Tryz.prog.bytesOf 162 = 24 by kernel_rfl, List.length_map, List.length_range] at hsz
    have hlen : len * 24 ≤ reachBytes := Nat.le_trans (Nat.mul_le_mul_right _ (Nat.le_add_right _ _)) hsz
    have hrb := reachBytes_lt
    obtain ⟨l, hl, hq⟩ := list_of (n := len) (Q := fun i (e : TEnt) => e.Fits ∧ w.cell? (a.add (i * 2)) = some (.string e.name) ∧ w.cell? (a.add (i * 2 + 1)) = some (.int .i64 e.node)) fun i hil => by
      obtain ⟨cs', hc, ht⟩ := hi i (by rw [hm]; split <;> omega)
      obtain ⟨ys, k2, hD, hyl, hf⟩ := fields_of Tryz.underlying162 (by kernel_rfl) (by kernel_rfl) hc ht
      obtain ⟨v0, y0, c0, hy0, t0⟩ := hf 0 _ rfl
      obtain ⟨v1, y1, c1, hy1, t1⟩ := hf 1 _ rfl
      have hwD : Weighed Tryz.prog 162 (D i) := hel _ (List.mem_map.2 ⟨i, List.mem_range.2 hil, rfl⟩)
      rw [hD] at hwD
      obtain ⟨s, e0, hy0', -⟩ := DataW.trod_string Tryz.underlying9 t0
      obtain ⟨q, e1, -, hwf⟩ := DataW.trod_int Tryz.underlying3 t1
      cases e0
      cases e1
      have hs := (hwD.field Tryz.underlying162 (j := 0) rfl (d := y0.1) (by simp [hy0]))
      rw [hy0'] at hs
      have hs2 := Weighed.string hs
      rw [show Tryz.prog.cellsOf 162 = 2 by kernel_rfl, add_add] at c0 c1
      exact ⟨⟨s, q⟩, ⟨by rw [Array.length_toList] at hs2; have h0 : s.size = s.data.size := rfl; show s.size ≤ _; omega, wf_i64 hwf⟩, c0, c1⟩
    refine ⟨some a, cap, l, by rw [hl], by omega, fun k e hk => ?_, by omega, fun e he => ?_⟩
    · obtain ⟨-, c0, c1⟩ := hq k e hk
      have hsp : a.spot = none := by
        have hk0 : 0 < l.length := by have := (List.getElem?_eq_some_iff.1 hk).1; omega
        obtain ⟨-, c0', -⟩ := hq 0 _ (List.getElem?_eq_getElem hk0)
        have := World.cell?_spot c0'
        rw [Nat.zero_mul] at this
        exact this
      rw [add_plain hsp] at c0 c1
      obtain ⟨b, o, sp⟩ := a
      dsimp only at hsp c0 c1
      subst hsp
      exact ⟨b, o, rfl, c0, by rw [← Nat.add_assoc] at c1; exact c1⟩
    · obtain ⟨k, hk⟩ := List.getElem?_of_mem he
      exact (hq k e hk).1
theorem bytes_open {n : Nat} {v : Value} {y : DataW H × List MemPlace} (h : DataW.trod enc Tryz.prog w base spare held n 69 [v] = some y) (hw : Weighed Tryz.prog 69 y.1) :
    ∃ A cl, ∃ l : List Int, v = .slice A l.length cl ∧ l.length ≤ cl ∧ BytesAt w A l ∧ l.length ≤ 140737488355328 := by
  rcases open_slice Tryz.underlying69 h with ⟨hv, -⟩ | ⟨a, len, cap, m, k, D, Pl, hv, -, hlc, -, hm, hx, hi⟩
  · cases hv; exact ⟨none, 0, [], rfl, Nat.le_refl _, fun k e hk => by simp at hk, by simp⟩
  · cases hv
    subst hx
    obtain ⟨hsz, -⟩ := hw.slice Tryz.underlying69
    rw [show Tryz.prog.bytesOf 5 = 1 by kernel_rfl, List.length_map, List.length_range] at hsz
    have hlen : len * 1 ≤ reachBytes := Nat.le_trans (Nat.mul_le_mul_right _ (Nat.le_add_right _ _)) hsz
    have hrb := reachBytes_lt
    obtain ⟨l, hl, hq⟩ := list_of (n := len) (Q := fun i (x : Int) => w.cell? (a.add i) = some (.int .u8 x)) fun i hil => by
      obtain ⟨cs', hc, ht⟩ := hi i (by rw [hm]; split <;> omega)
      obtain ⟨q, e1, -, hwf⟩ := DataW.trod_int Tryz.underlying5 ht
      obtain ⟨_, hcl, hat⟩ := World.cells?_some hc
      rw [show Tryz.prog.cellsOf 5 = 1 by kernel_rfl] at hat
      have := hat 0 (by omega)
      rw [e1, Nat.mul_one, add_add, Nat.add_zero] at this
      exact ⟨q, this⟩
    refine ⟨some a, cap, l, by rw [hl], by omega, fun k x hk => ?_, by omega⟩
    have c0 := hq k x hk
    have hsp : a.spot = none := by
      have hk0 : 0 < l.length := by have := (List.getElem?_eq_some_iff.1 hk).1; omega
      exact World.cell?_spot (hq 0 _ (List.getElem?_eq_getElem hk0))
    rw [add_plain hsp] at c0
    obtain ⟨b, o, sp⟩ := a
    dsimp only at hsp c0
    subst hsp
    exact ⟨b, o, rfl, c0⟩
theorem nodes_open {n : Nat} {v : Value} {y : DataW H × List MemPlace} (h : DataW.trod enc Tryz.prog w base spare held n 22 [v] = some y) (hw : Weighed Tryz.prog 22 y.1) :
    ∃ A cl, ∃ l : List TNode, v = .slice A l.length cl ∧ NodesAt w A l ∧ l.length ≤ 140737488355328 ∧ ∀ e ∈ l, e.Fits := by
  rcases open_slice Tryz.underlying22 h with ⟨hv, -⟩ | ⟨a, len, cap, m, k, D, Pl, hv, -, hlc, -, hm, hx, hi⟩
  · cases hv; exact ⟨none, 0, [], rfl, fun k e hk => by simp at hk, by simp, fun e he => by cases he⟩
  · cases hv
    subst hx
    obtain ⟨hsz, hel⟩ := hw.slice Tryz.underlying22
    rw [show Tryz.prog.bytesOf 80 = 120 by kernel_rfl, List.length_map, List.length_range] at hsz
    have hlen : len * 120 ≤ reachBytes := Nat.le_trans (Nat.mul_le_mul_right _ (Nat.le_add_right _ _)) hsz
    have hrb := reachBytes_lt
    obtain ⟨l, hl, hq⟩ := list_of (n := len) (Q := fun i (e : TNode) => e.Fits ∧ ∃ vs, NodeVals w e vs ∧ vs.length = 10 ∧ ∀ j v, vs[j]? = some v → w.cell? (a.add (i * 10 + j)) = some v) fun i hil => by
      obtain ⟨cs', hc, ht⟩ := hi i (by rw [hm]; split <;> omega)
      obtain ⟨ys, k2, hD, hyl, hf⟩ := fields_of Tryz.underlying80 (by kernel_rfl) (by kernel_rfl) hc ht
      obtain ⟨v0, y0, c0, hy0, t0⟩ := hf 0 _ rfl
      obtain ⟨v1, y1, c1, hy1, t1⟩ := hf 1 _ rfl
      obtain ⟨v2, y2, c2, hy2, t2⟩ := hf 2 _ rfl
      obtain ⟨v3, y3, c3, hy3, t3⟩ := hf 3 _ rfl
      obtain ⟨v4, y4, c4, hy4, t4⟩ := hf 4 _ rfl
      obtain ⟨v5, y5, c5, hy5, t5⟩ := hf 5 _ rfl
      obtain ⟨v6, y6, c6, hy6, t6⟩ := hf 6 _ rfl
      obtain ⟨v7, y7, c7, hy7, t7⟩ := hf 7 _ rfl
      obtain ⟨v8, y8, c8, hy8, t8⟩ := hf 8 _ rfl
      obtain ⟨v9, y9, c9, hy9, t9⟩ := hf 9 _ rfl
      have hwD : Weighed Tryz.prog 80 (D i) := hel _ (List.mem_map.2 ⟨i, List.mem_range.2 hil, rfl⟩)
      rw [hD] at hwD
      obtain ⟨q0, e0, -, f0⟩ := DataW.trod_int Tryz.underlying77 t0
      obtain ⟨q1, e1, -, f1⟩ := DataW.trod_int Tryz.underlying3 t1
      obtain ⟨q2, e2, -, f2⟩ := DataW.trod_int Tryz.underlying3 t2
      obtain ⟨q3, e3, -, f3⟩ := DataW.trod_int Tryz.underlying3 t3
      obtain ⟨q4, e4, -, f4⟩ := DataW.trod_int Tryz.underlying3 t4
      obtain ⟨q5, e5, -, f5⟩ := DataW.trod_int Tryz.underlying3 t5
      obtain ⟨q9, e9, -, f9⟩ := DataW.trod_int Tryz.underlying3 t9
      obtain ⟨s, e7, hy7', -⟩ := DataW.trod_string Tryz.underlying9 t7
      have w6 := hwD.field Tryz.underlying80 (j := 6) rfl (d := y6.1) (by simp [hy6])
      have w7 := hwD.field Tryz.underlying80 (j := 7) rfl (d := y7.1) (by simp [hy7])
      have w8 := hwD.field Tryz.underlying80 (j := 8) rfl (d := y8.1) (by simp [hy8])
      rw [hy7'] at w7
      have hs2 := Weighed.string w7
      rw [Array.length_toList] at hs2
      have hs3 : s.size = s.data.size := rfl
      obtain ⟨Da, cd, dl, e6, hcd, hDa, hdl⟩ := bytes_open t6 w6
      obtain ⟨La, cl, ll, e8, hcl, hLa, hll, hlf⟩ := ents_open t8 w8
      cases e0; cases e1; cases e2; cases e3; cases e4; cases e5; cases e7; cases e9
      subst e6 e8
      rw [show Tryz.prog.cellsOf 80 = 10 by kernel_rfl, add_add] at c0 c1 c2 c3 c4 c5 c6 c7 c8 c9
      refine ⟨⟨q0, q1, q2, q3, q4, q5, dl, s, ll, q9⟩, ⟨wf_u8 f0, wf_i64 f1, wf_i64 f2, wf_i64 f3, wf_i64 f4, wf_i64 f5, wf_i64 f9, hdl, by show s.size ≤ _; omega, hll, hlf⟩, _, ⟨Da, cd, La, cl, rfl, hcd, hDa, hcl, hLa⟩, rfl, fun j v hj => ?_⟩
      match j, hj with
      | 0, hj => cases hj; exact c0
      | 1, hj => cases hj; exact c1
      | 2, hj => cases hj; exact c2
      | 3, hj => cases hj; exact c3
      | 4, hj => cases hj; exact c4
      | 5, hj => cases hj; exact c5
      | 6, hj => cases hj; exact c6
      | 7, hj => cases hj; exact c7
      | 8, hj => cases hj; exact c8
      | 9, hj => cases hj; exact c9
    refine ⟨some a, cap, l, by rw [hl], fun k e hk => ?_, by omega, fun e he => ?_⟩
    · obtain ⟨-, vs, hv, hvl, hc⟩ := hq k e hk
      have hsp : a.spot = none := by
        have hk0 : 0 < l.length := by have := (List.getElem?_eq_some_iff.1 hk).1; omega
        obtain ⟨-, vs0, -, hvl0, hc0⟩ := hq 0 _ (List.getElem?_eq_getElem hk0)
        have := World.cell?_spot (hc0 0 _ (List.getElem?_eq_getElem (by omega)))
        rw [Nat.zero_mul] at this
        exact this
      obtain ⟨b, o, sp⟩ := a
      dsimp only at hsp
      subst hsp
      refine ⟨b, o, vs, rfl, hv, fun j v hj => ?_⟩
      have := hc j v hj
      rw [add_plain rfl] at this
      rw [Nat.add_assoc]
      exact this
    · obtain ⟨k, hk⟩ := List.getElem?_of_mem he
      exact (hq k e hk).1
end
end Go.Proofs.YtbfcfjgcmideeaaGreatDoor
namespace Go.Proofs.YtbfcfjgcmideeaaGreatDoor
open Go.ChangeShapes Go.WideShapes Go.ChangeAt Go.RowKit Go.Deep
section
variable {H : Type} {enc : TypeId × Value → H} {P : Program}
theorem post_of_below {f : Func} {s : ChangeSpec} {apart fresh handsOn again : Bool} {W W' : World} {args : Array Value} {v : Value} {ds gs : List (DataW H)} {before pa pv : List MemPlace}
    (hW : DataW.Whole enc P f.params.toList s.vars apart W args.toList ds gs before)
    (hres : ∀ (b : Nat) (sp : Nat → Bool) (hd : Bool), DataW.TrodAll enc P W' b sp hd f.resultTypes.toList (v.resultList f.resultTypes.size) (s.fn H (ds ++ gs)).results [])
    (hargs : ∀ sp : Nat → Bool, (∀ p ∈ before, sp p.block = true) → DataW.TrodAll enc P W' 0 sp true f.params.toList args.toList (s.fn H (ds ++ gs)).args pa)
    (hvars : ∀ sp : Nat → Bool, (∀ p ∈ before, sp p.block = true) → DataW.TrodVars enc P W' sp s.vars (s.fn H (ds ++ gs)).vars pv)
    (hps : before = pa ++ pv) (hb : Below W.heap.size W W')
    (hok : ∀ (j : Nat) (t : TypeId) (r : Value), f.resultTypes[j]? = some t → (v.resultList f.resultTypes.size)[j]? = some r → Value.okWide P W' .any 0 t r) :
    s.post enc P f apart fresh handsOn again W args v W' := by
  have hlt : ∀ p ∈ before, p.block < W.heap.size := fun p hp => hW.lt p hp
  have hold : ∀ p ∈ before, (fun b => decide (b < W.heap.size)) p.block = true := fun p hp => by simpa using hlt p hp
  refine ⟨ds, gs, before, [], pa, pv, hW, hres _ _ _, hargs _ hold, hvars _ hold, World.keptBut_mono (fun p hp => ⟨hp, ?_⟩) (hb.frame (· ∈ before)), fun _ => ?_⟩
  · rw [hps, List.mem_append] at hp
    exact Or.inr hp
  · obtain ⟨_, _, _, _, _, hz, hn⟩ := hW
    refine ⟨hok, _, _, ([] ++ pa) ++ pv, ⟨[] ++ pa, pv, trodAll_append (hargs _ (fun _ _ => rfl)) (hres _ _ _), hvars _ (fun _ _ => rfl), rfl, ?_, ?_⟩, ?_⟩
    · intro b off hp
      have hin : MemPlace.cell b off ∈ before := by rw [hps]; simpa using hp
      rw [hb.frozen (hlt _ hin)]
      exact hz b off hin
    · intro ha
      have := hn ha
      rw [hps] at this
      simpa using this
    · intro p hp _
      rw [hps]
      simpa using hp
end

theorem own_knob : ownKnob Tryz.prog.godebug = none := by kernel_rfl
theorem laid_out : laidOutB Tryz.prog = true := by kernel_rfl
set_option maxRecDepth 100000 in
theorem tree_open {H : Type} {enc : TypeId × Value → H} {w : World} {base : Nat} {spare : Nat → Bool} {held : Bool} {r : Reach} {b0 : Nat} {v : Value} {d : DataW H} {p : List MemPlace} (hv : Value.okWide Tryz.prog w r b0 24 v)
    (h : DataW.Trod enc Tryz.prog w base spare held 24 v d p) (hw : Weighed Tryz.prog 24 d) :
    ∃ A c, ∃ t : TTree, v = .agg #[.slice A t.nodes.length c, .int .i64 t.now] ∧ NodesAt w A t.nodes ∧ t.Fits := by
  obtain ⟨v0, v1, y0, y1, n, rfl, rfl, -, t0, t1⟩ := Go.Joins.open_agg2 Tryz.underlying24 (by kernel_rfl) (by kernel_rfl) hv h
  have w0 := hw.field Tryz.underlying24 (j := 0) rfl (d := y0.1) rfl
  obtain ⟨A, c, l, rfl, hA, hl, hF⟩ := nodes_open t0 w0
  obtain ⟨q, e1, -, hq⟩ := DataW.trod_int Tryz.underlying3 t1
  cases e1
  exact ⟨A, c, ⟨l, q⟩, rfl, hA, hl, hF, wf_i64 hq⟩
section
variable {H : Type} {enc : TypeId × Value → H} {P : Program}
theorem trodAll_stays (hl : laidOutB P = true) {W W' : World} (hb : Below W.heap.size W W') {sp : Nat → Bool} : ∀ {ts : List TypeId} {vs : List Value} {ds : List (DataW H)} {ps : List MemPlace}, (∀ t ∈ ts, P.readableRec t = true ∧ t < P.types.size) →
    DataW.TrodAll enc P W 0 (fun _ => true) true ts vs ds ps → (∀ p ∈ ps, p.block < W.heap.size) → (∀ p ∈ ps, sp p.block = true) → DataW.TrodAll enc P W' 0 sp true ts vs ds ps
  | [], vs, ds, ps, _, h, _, _ => by
    obtain ⟨rfl, rfl, rfl⟩ := trodAll_nil h
    exact trodAll_mk0
  | t :: ts, vs, ds, ps, ht, h, hlt, hs => by
    obtain ⟨v, vs', d, ds', p, p', rfl, rfl, rfl, h1, h2⟩ := trodAll_cons h
    refine trodAll_cons_mk (WideElems.Trod_stays hl (ht t (by simp)).1 (ht t (by simp)).2 h1 (fun x hx => hb.same (hlt x (by simp [hx]))) (fun x hx => hs x (by simp [hx]))) (trodAll_stays hl hb (fun t ht' => ht t (by simp [ht'])) h2 (fun x hx => hlt x (by simp [hx])) (fun x hx => hs x (by simp [hx])))
end
end Go.Proofs.YtbfcfjgcmideeaaGreatDoor
namespace Go.Proofs.YtbfcfjgcmideeaaGreatDoor
open Go.ChangeShapes Go.WideShapes Go.ChangeAt Go.RowKit Go.Deep
theorem array8 {cs : Array Value} (h : cs.size = 8) : ∃ v0 v1 v2 v3 v4 v5 v6 v7, cs = #[v0, v1, v2, v3, v4, v5, v6, v7] := by
  obtain ⟨l⟩ := cs
  match l, h with
  | [v0, v1, v2, v3, v4, v5, v6, v7], _ => exact ⟨v0, v1, v2, v3, v4, v5, v6, v7, rfl⟩
section
variable {H : Type} {enc : TypeId × Value → H} {w : World} {base : Nat} {spare : Nat → Bool} {held : Bool}
set_option maxRecDepth 100000 in
theorem tree_cells_open {n : Nat} {v0 v1 : Value} {y : DataW H × List MemPlace} (h : DataW.trod enc Tryz.prog w base spare held n 24 [v0, v1] = some y) (hw : Weighed Tryz.prog 24 y.1) :
    ∃ A c, ∃ t : TTree, v0 = .slice A t.nodes.length c ∧ v1 = .int .i64 t.now ∧ NodesAt w A t.nodes ∧ t.Fits := by
  obtain ⟨y0, y1, k, rfl, -, t0, t1⟩ := trod_struct2 Tryz.underlying24 h
  have w0 := hw.field Tryz.underlying24 (j := 0) rfl (d := y0.1) rfl
  obtain ⟨A, c, l, e0, hA, hl, hF⟩ := nodes_open (v := v0) t0 w0
  obtain ⟨q, e1, -, hq⟩ := DataW.trod_int Tryz.underlying3 t1
  have e1 : [v1] = [Value.int .i64 q] := e1
  cases e1
  exact ⟨A, c, ⟨l, q⟩, e0, rfl, hA, hl, hF, wf_i64 hq⟩
set_option maxRecDepth 100000 in
theorem env_cells_open {n : Nat} {v0 v1 v2 v3 : Value} {y : DataW H × List MemPlace} (h : DataW.trod enc Tryz.prog w base spare held n 26 [v0, v1, v2, v3] = some y) :
    ∃ u g m d : Int, v0 = .int .i64 u ∧ v1 = .int .i64 g ∧ v2 = .int .i64 m ∧ v3 = .int .i64 d ∧ I64 u ∧ I64 g ∧ I64 m ∧ I64 d := by
  obtain ⟨y0, y1, y2, y3, k, rfl, -, t0, t1, t2, t3⟩ := Go.Joins.trod_struct4 Tryz.underlying26 h
  obtain ⟨q0, e0, -, h0⟩ := DataW.trod_int Tryz.underlying3 t0
  obtain ⟨q1, e1, -, h1⟩ := DataW.trod_int Tryz.underlying3 t1
  obtain ⟨q2, e2, -, h2⟩ := DataW.trod_int Tryz.underlying3 t2
  obtain ⟨q3, e3, -, h3⟩ := DataW.trod_int Tryz.underlying3 t3
  have e0 : [v0] = [Value.int .i64 q0] := e0
  have e1 : [v1] = [Value.int .i64 q1] := e1
  have e2 : [v2] = [Value.int .i64 q2] := e2
  have e3 : [v3] = [Value.int .i64 q3] := e3
  cases e0; cases e1; cases e2; cases e3
  exact ⟨q0, q1, q2, q3, rfl, rfl, rfl, rfl, wf_i64 h0, wf_i64 h1, wf_i64 h2, wf_i64 h3⟩
set_option maxRecDepth 100000 in
theorem walking_open {r : Reach} {b0 : Nat} {v : Value} {d : DataW H} {p : List MemPlace} (hv : Value.okWide Tryz.prog w r b0 28 v)
    (h : DataW.Trod enc Tryz.prog w base spare held 28 v d p) (hw : Weighed Tryz.prog 28 d) :
    ∃ A c, ∃ t : TTree, ∃ u g m e : Int, ∃ s : ByteArray, ∃ z : Int, v = .agg #[.slice A t.nodes.length c, .int .i64 t.now, .int .i64 u, .int .i64 g, .int .i64 m, .int .i64 e, .string s, .int .i64 z] ∧ NodesAt w A t.nodes ∧ t.Fits ∧ (I64 u ∧ I64 g ∧ I64 m ∧ I64 e ∧ s.size ≤ 140737488355328 ∧ I64 z) := by
  obtain ⟨cs, rfl, hsz⟩ := okWide_struct Tryz.underlying28 hv
  obtain ⟨v0, v1, v2, v3, v4, v5, v6, v7, rfl⟩ := array8 (hsz.trans (by kernel_rfl))
  obtain ⟨fuel, hf⟩ := h
  obtain ⟨y0, y1, y2, y3, k, hx, -, t0, t1, t2, t3⟩ := Go.Joins.trod_struct4 Tryz.underlying28 hf
  cases hx
  have t0' : DataW.trod enc Tryz.prog w base spare held k 24 [v0, v1] = some y0 := t0
  have t1' : DataW.trod enc Tryz.prog w base spare held k 26 [v2, v3, v4, v5] = some y1 := t1
  have t2' : DataW.trod enc Tryz.prog w base spare held k 9 [v6] = some y2 := t2
  have t3' : DataW.trod enc Tryz.prog w base spare held k 3 [v7] = some y3 := t3
  have w0 := hw.field Tryz.underlying28 (j := 0) rfl (d := y0.1) rfl
  have w2 := hw.field Tryz.underlying28 (j := 2) rfl (d := y2.1) rfl
  obtain ⟨A, c, t, rfl, rfl, hA, hF⟩ := tree_cells_open t0' w0
  obtain ⟨u, g, m, e, rfl, rfl, rfl, rfl, hE⟩ := env_cells_open t1'
  obtain ⟨s, es, hys, -⟩ := DataW.trod_string Tryz.underlying9 t2'
  cases es
  obtain ⟨z, ez, -, hz⟩ := DataW.trod_int Tryz.underlying3 t3'
  have ez : [v7] = [Value.int .i64 z] := ez
  cases ez
  refine ⟨A, c, t, u, g, m, e, s, z, rfl, hA, hF, hE.1, hE.2.1, hE.2.2.1, hE.2.2.2, ?_, wf_i64 hz⟩
  rw [hys] at w2
  have := Weighed.string w2
  rw [Array.length_toList] at this
  exact Nat.le_trans this (by decide)
end
end Go.Proofs.YtbfcfjgcmideeaaGreatDoor
