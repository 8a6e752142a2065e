/- walk.Walk's closures, walk.steps, slices.Clip. -/
/- walk.Walk. -/
import Derived.Test.YtbfcfjgcmideeaaGreatDoorCome
import Derived.Test.YtbfcfjgcmideeaaGreatDoorW6
import Derived.Test.YtbfcfjgcmideeaaGreatDoorB1
import Derived.Test.YtbfcfjgcmideeaaGreatDoorFind
import Derived.Test.YtbfcfjgcmideeaaGreatDoorM2
import Derived.Test.YtbfcfjgcmideeaaGreatDoorMaps
namespace Go.Proofs.YtbfcfjgcmideeaaGreatDoor
open Go.RowKit
attribute [local go_sem] Later.cell_eq Oper.semAt_some
theorem wpListIn_append_grow {F : Fence} {n' : Nat} {P : Program} {ops : Array Oper} {rest : List Oper} {o : Oper} {a : Act} {Q : Exit → Act → World → Prop} (hgd : o.guard = none) (s x : Operand) (t : TypeId)
    (ho : o.op = .call { callee := .builtin .append, args := #[s, x], argTypes := #[t, t] }) {B : Nat} {w : World} {e e' : TypeId} {size bytes : Nat} (he : Elem P t e size bytes)
    {v : Value} {rows : List (List Value)} (n : Nat) (hn : rows.length = n) (row : List Value) (hs : a.eval s = v) (hown : Own w B e size v rows) (hB : B ≤ w.heap.size)
    (hx : a.eval x = .slice (some ⟨w.heap.size, 0, none⟩) 1 1) (hl : row.length = size) (h1 : ∀ u ∈ row, u.oneCell' = true) (hm : n + 1 ≤ maxLen) (hbytes : (n + 1) * bytes ≤ 140737488355328)
    (h : ∀ v' w', Own w' B e size v' (rows ++ [row]) → w.grownBy w' v.ownBlock → (v'.ownBlock = v.ownBlock ∨ ∃ k, v'.ownBlock = some k ∧ w.heap.size ≤ k) → (∃ A c, v' = .slice A (n + 1) c) → wpListIn F n' P ops Q rest (a.put o.dst v') w') :
    wpListIn F n' P ops Q (o :: rest) a (w.alloc (.cells row.toArray e')) := by
  subst hn
  obtain ⟨i, z, ht, hi, hz, hsize, hby, hzs, hsz⟩ := he.ex
  refine wpListIn_plain hgd fun K hK => ?_
  have hnews : ∀ j u, row[j]? = some u → (w.alloc (.cells row.toArray e')).cell? ((⟨w.heap.size, 0, none⟩ : Addr).add j) = some u := by
    intro j u hj
    rw [show (⟨w.heap.size, 0, none⟩ : Addr).add j = ⟨w.heap.size, j, none⟩ by unfold Addr.add; split <;> simp_all, cell_of_row _ w.heap.size j _ _ _ (heap_alloc_new _ _)]
    simpa using hj
  have hl1 : row.length = 1 * size := by rw [hl, Nat.one_mul]
  obtain ⟨v', w', hr, h2, h3, h4, h5⟩ := run_append_own_at (P := P) (w.alloc (.cells row.toArray e')) B t o.type e i z size bytes ht hi hz hsize hby hzs hsz v rows.length rows.flatten (hown.own.alloc _) ⟨w.heap.size, 0, none⟩ 1 1 row hl1 hnews h1 hm hbytes (by simp; omega)
  have hO : Own w' B e size v' (rows ++ [row]) := ⟨by simpa using h2, fun r hr => by
    rcases List.mem_append.1 hr with h | h
    · exact hown.each r h
    · rw [List.mem_singleton.1 h]; exact hl⟩
  obtain ⟨A, c, hA⟩ := own_len hO
  unfold Oper.wpIn
  refine ⟨?_, ?_⟩
  · simp [Oper.about, ho, resolve, Target.leads, Sem.run_pure]
  · rw [Oper.semAt_plain F _ _ (by rw [ho]; intro c hc'; cases hc')]
    simp [execOp, ho, resolve, invoke, builtin, hs, hx, hr, Result.andThen]
    exact hK _ _ (h v' w' hO (World.grownBy.trans (World.grownBy_alloc _ _ _) h3) (h5.imp id fun h => ⟨_, h, by simp⟩) ⟨A, c, by simpa using hA⟩)
theorem elem_step : Elem Tryz.prog 32 111 4 40 := Elem.mk' (z := .agg #[.string ⟨#[]⟩, .int .i64 0, .int .i64 0, .bool false]) Tryz.underlying32 (by kernel_rfl) rfl (by decide)
theorem elem_strw : Elem Tryz.prog 33 9 1 16 := Elem.mk' (z := .string ⟨#[]⟩) Tryz.underlying33 (by kernel_rfl) rfl (by decide)
set_option maxHeartbeats 2000000 in
theorem walkShut_calls (B bo bs : Nat) (O : Nat → Prop) (o : List TStep) (s : List ByteArray) (p : ByteArray) (W : World) (hB : B ≤ W.heap.size) (h : WI B bo bs 32 33 111 9 O o s W) (hs : s.length < 1000000) :
    Calls Tryz.prog 63 #[.string p, .pointer (some ⟨bs, 0, none⟩)] W fun e W' => e = .returned (.tuple #[]) ∧ Went (WI B bo bs 32 33 111 9) O o (s ++ [p]) W W' := by
  obtain ⟨vo, vs, hw⟩ := h
  obtain ⟨A, c, hvs⟩ := own_len hw.os
  have hpl : (pathRows s).length = s.length := by simp [pathRows]
  rw [hpl] at hvs
  subst hvs
  have k1 : W.cell? ⟨bs, 0, none⟩ = some (.slice A s.length c) := (cell_of_row W bs 0 _ _ _ hw.rs).trans rfl
  have HW := Lib.hid hw
  clear hw
  go_enter Tryz.func63, Tryz.ntmps63
  go_wp2_with (at_builtin
               refine wpList_append_grow rfl _ _ 33 rfl elem_strw s.length hpl [.string p] rfl HW.out.os.x hB rfl rfl (by simp [Value.oneCell']) (by unfold maxLen; omega) (by omega) ?_
               rintro _ w2 hown2 hg2 hv2 ⟨A5, c5, rfl⟩
               have hr2 : w2.heap[bs]? = some (.cells #[.slice A s.length c] 33 (0, 0)) := (hg2.block bs (Array.getElem?_eq_some_iff.1 HW.out.rs).1 (fun e => HW.out.ne.2.2.2.2.1 e.symm)).trans HW.out.rs
               have c2 : w2.cell? ⟨bs, 0, none⟩ = some (.slice A s.length c) := (cell_of_row w2 bs 0 _ _ _ hr2).trans rfl
               have f2 := frozen_of_row w2 bs 0 _ _ hr2
               have HO2 := Lib.hid hown2
               have HG2 := Lib.hid hg2
               have HV2 := Lib.hid hv2
               clear hown2 hg2 hr2 hv2)
  refine bodyPost_end (v := .tuple #[]) (by kernel_rfl) rfl ?_
  exact ⟨rfl, HW.out.putPath HO2.out HG2.out (HV2.out.imp id fun ⟨k, h1, h2, _⟩ => ⟨k, h1, h2⟩)⟩
theorem wi_ok (B bo bs : Nat) : IOK Tryz.prog 63 bs 1000000 (fun O o s W => B ≤ W.heap.size ∧ WI B bo bs 32 33 111 9 O o s W) := by
  refine ⟨fun O o s W ⟨_, vo, vs, h⟩ => h.lt, fun O o s W W' ⟨h1, h2⟩ ht => ⟨Nat.le_trans h1 ht.size, h2.turned ht⟩, fun O o s p W ⟨h1, h2⟩ hs => ?_⟩
  refine (walkShut_calls B bo bs O o s p W h1 h2 hs).mono ?_
  rintro e W' ⟨he, O', e1, e2, e3⟩
  exact ⟨he, O', ⟨Nat.le_trans h1 e2.size, e1⟩, e2, e3⟩
theorem clipSteps_calls (A : Option Addr) (n c : Nat) (hc : n ≤ c) (w : World) :
    Calls Tryz.prog 64 #[.slice A n c] w fun e w' => e = .returned (.slice A n n) ∧ w' = w := by
  go_enter Tryz.func64, Tryz.ntmps64
  go_wp2
  go_ret
  exact ⟨rfl, rfl⟩
theorem clipTexts_calls (A : Option Addr) (n c : Nat) (hc : n ≤ c) (w : World) :
    Calls Tryz.prog 65 #[.slice A n c] w fun e w' => e = .returned (.slice A n n) ∧ w' = w := by
  go_enter Tryz.func65, Tryz.ntmps65
  go_wp2
  go_ret
  exact ⟨rfl, rfl⟩
set_option maxHeartbeats 2000000 in
/-- walk.steps' function, handed a round: all steps, and all shut paths, from the node on. -/
theorem stepsFn_calls (t : TTree) (hF : t.Fits) (A : Option Addr) (cap : Nat) (deepest u g m d : Int) (l sb b1 b3 b4 b5 bf M : Nat) (J : (Nat → Prop) → List TStep → List ByteArray → World → Prop) (hJ : JOK Tryz.prog 63 l sb M J) (W0 : World) (hA : NodesAt W0 A t.nodes)
    (fuel : Nat) (n : Int) (path : ByteArray) (O : Nat → Prop) (W : World) (hfu : Fuel t fuel n path.size) (hfl : fuel ≤ 10000) (hj : J O [] [] W) (hO : ∀ k, O k → W0.heap.size ≤ k) (hB : Below W0.heap.size W0 W)
    (hoff : ¬ O b1 ∧ ¬ O b3 ∧ ¬ O b4 ∧ ¬ O b5) (k1 : W.cell? ⟨b1, 0, none⟩ = some (.slice A t.nodes.length cap)) (k3 : W.cell? ⟨b3, 0, none⟩ = some (.int .i64 deepest)) (e0 : W.cell? ⟨b4, 0, none⟩ = some (.int .i64 u)) (e1 : W.cell? ⟨b4, 1, none⟩ = some (.int .i64 g)) (e2 : W.cell? ⟨b4, 2, none⟩ = some (.int .i64 m)) (e3 : W.cell? ⟨b4, 3, none⟩ = some (.int .i64 d))
    (k5 : W.cell? ⟨b5, 0, none⟩ = some (.func (.func 63) #[] #[.pointer (some ⟨sb, 0, none⟩)])) (f0 : W.cell? ⟨bf, 0, none⟩ = some (.string path)) (f1 : W.cell? ⟨bf, 1, none⟩ = some (.int .i64 n)) (f2 : W.cell? ⟨bf, 2, none⟩ = some (.int .i64 0)) (f3 : W.cell? ⟨bf, 3, none⟩ = some (.bool false))
    (ho : (walkP t u g deepest fuel n path 0).1.length ≤ M) (hs : (walkP t u g deepest fuel n path 0).2.length ≤ M) :
    Calls Tryz.prog 144 #[.func (.yield l) #[] #[], .pointer (some ⟨b1, 0, none⟩), .pointer (some ⟨b3, 0, none⟩), .pointer (some ⟨b4, 0, none⟩), .pointer (some ⟨b5, 0, none⟩), .pointer (some ⟨bf, 0, none⟩)] W fun e W' => (∃ v, e = .returned v) ∧ Went J O (walkP t u g deepest fuel n path 0).1 (walkP t u g deepest fuel n path 0).2 W W' := by
  have hlt := hJ.lt _ _ _ _ hj
  have HIN := Lib.hid (And.intro hfu (And.intro hj (And.intro hO hB)))
  have HOFF := Lib.hid hoff
  have HLT := Lib.hid hlt
  have HSZ := Lib.hid (And.intro ho hs)
  clear hfu hj hO hB hoff hlt ho hs
  go_enter Tryz.func144, Tryz.ntmps144
  go_upto_region 3 with fail
  obtain ⟨wc, hwc⟩ : ∃ y, y = (W.alloc (.cells #[.func (.yield l) #[] #[]] 172)).alloc (.cells #[.func (.func 145) #[] #[.pointer (some ⟨b1, 0, none⟩), .pointer (some ⟨W.heap.size, 0, none⟩), .pointer (some ⟨b3, 0, none⟩), .pointer (some ⟨b4, 0, none⟩), .pointer (some ⟨b5, 0, none⟩), .pointer (some ⟨W.heap.size + 1, 0, none⟩)]] 172) := ⟨_, rfl⟩
  have hBc : Below W.heap.size W wc := by rw [hwc]; exact below_alloc (below_alloc (Below.refl _ _) _) _
  have y2 : wc.cell? ⟨W.heap.size, 0, none⟩ = some (.func (.yield l) #[] #[]) := by
    rw [hwc, cell_of_row _ W.heap.size 0 _ _ _ ((Below.heap_alloc _ _ _ (by simp)).trans (heap_alloc_new W _))]; rfl
  have y6 : wc.cell? ⟨W.heap.size + 1, 0, none⟩ = some (.func (.func 145) #[] #[.pointer (some ⟨b1, 0, none⟩), .pointer (some ⟨W.heap.size, 0, none⟩), .pointer (some ⟨b3, 0, none⟩), .pointer (some ⟨b4, 0, none⟩), .pointer (some ⟨b5, 0, none⟩), .pointer (some ⟨W.heap.size + 1, 0, none⟩)]) := by
    have := heap_alloc_new (W.alloc (.cells #[.func (.yield l) #[] #[]] 172)) (.cells #[.func (.func 145) #[] #[.pointer (some ⟨b1, 0, none⟩), .pointer (some ⟨W.heap.size, 0, none⟩), .pointer (some ⟨b3, 0, none⟩), .pointer (some ⟨b4, 0, none⟩), .pointer (some ⟨b5, 0, none⟩), .pointer (some ⟨W.heap.size + 1, 0, none⟩)]] 172)
    rw [World.size_alloc] at this
    rw [hwc, cell_of_row _ (W.heap.size + 1) 0 _ _ _ this]; rfl
  rw [← hwc]
  obtain ⟨b2, hb2⟩ : ∃ y, y = W.heap.size := ⟨_, rfl⟩
  have o2 : ¬ O b2 := fun h => by have := HLT.out _ h; omega
  have o6 : ¬ O (b2 + 1) := fun h => by have := HLT.out _ h; omega
  rw [← hb2] at y2 y6
  rw [← hb2]
  have hcap : Cap 145 63 wc O b1 b2 b3 b4 b5 (b2 + 1) A t.nodes.length cap deepest u g m d l sb :=
    ⟨⟨HOFF.out.1, o2, HOFF.out.2.1, HOFF.out.2.2.1, HOFF.out.2.2.2, o6⟩, cell_keep hBc k1, y2, cell_keep hBc k3, cell_keep hBc e0, cell_keep hBc e1, cell_keep hBc e2, cell_keep hBc e3, cell_keep hBc k5, y6⟩
  have HCAP := Lib.hid hcap
  have HBC := Lib.hid hBc
  replace f0 := cell_keep hBc f0
  replace f1 := cell_keep hBc f1
  replace f2 := cell_keep hBc f2
  replace f3 := cell_keep hBc f3
  clear hwc hb2 hBc hcap k1 k3 e0 e1 e2 e3 k5 y2 o2 o6
  go_wp2_with (go_at_call 145; refine (come_calls t hF A cap deepest u g m d l sb b1 b2 b3 b4 b5 (b2 + 1) M J hJ W0 hA fuel n path 0 O [] [] _ HIN.out.1 (by decide) (by omega) HCAP.out (hJ.keep HIN.out.2.1 HBC.out) HIN.out.2.2.1 (below_step HIN.out.2.2.2 HBC.out) (by simpa using HSZ.out.1) (by simpa using HSZ.out.2)).mono ?_; rintro _ w3 ⟨rfl, hw3⟩)
  refine bodyPost_end (v := .tuple #[]) (by kernel_rfl) rfl ?_
  exact ⟨⟨_, rfl⟩, hw3.from HBC.out⟩
end Go.Proofs.YtbfcfjgcmideeaaGreatDoor
namespace Go.Proofs.YtbfcfjgcmideeaaGreatDoor
open Go.RowKit
attribute [local go_sem] Later.cell_eq Oper.semAt_some
theorem run_loadVar_slice (P : Program) (w : World) (t e : TypeId) (p : Addr) (v : Value) (hu : P.underlying t = some (.slice e)) (hc : w.cell? p = some v) : (loadVar t p).run P w = .ok v w := by
  simp [loadVar, isAgg, go_sem, run_underlying hu, hc]
theorem results_cell2_tmp {P : Program} {fn : Func} {tmps : Array Value} {w : World} {a b c : Tmp} {t t' : TypeId} {p q : Addr} {v v' u : Value} (hr : fn.results = #[.cell a t, .cell b t', .tmp c]) (ha : tmps.getD a undef = .pointer (some p)) (hb : tmps.getD b undef = .pointer (some q)) (hc : tmps.getD c undef = u) (hl : (loadVar t p).run P w = .ok v w) (hl' : (loadVar t' q).run P w = .ok v' w) :
    (results fn tmps).run P w = .ok (.tuple #[v, v', u]) w := by
  rw [Array.getD_eq_getD_getElem?] at ha hb hc
  unfold results
  rw [hr]
  simp only [Array.mapM_eq_mapM_toList]
  simp [ha, hb, asAddr, hl, hl', hc]
/-- walk.steps: its function, with all that it has captured. -/
theorem steps_calls (A : Option Addr) (N c : Nat) (now u g m d deepest n : Int) (path : ByteArray) (sb : Nat) (w : World) :
    Calls Tryz.prog 62 #[.agg #[.slice A N c, .int .i64 now], .agg #[.int .i64 u, .int .i64 g, .int .i64 m, .int .i64 d], .int .i64 deepest, .agg #[.string path, .int .i64 n, .int .i64 0, .bool false], .func (.func 63) #[] #[.pointer (some ⟨sb, 0, none⟩)]] w fun e w' =>
      ∃ b1 b3 b4 b5 bf, (e = .returned (.func (.func 144) #[] #[.pointer (some ⟨b1, 0, none⟩), .pointer (some ⟨b3, 0, none⟩), .pointer (some ⟨b4, 0, none⟩), .pointer (some ⟨b5, 0, none⟩), .pointer (some ⟨bf, 0, none⟩)]) ∧ (w.heap.size ≤ b1 ∧ w.heap.size ≤ b3 ∧ w.heap.size ≤ b4 ∧ w.heap.size ≤ b5 ∧ w.heap.size ≤ bf) ∧
        w'.cell? ⟨b1, 0, none⟩ = some (.slice A N c) ∧ w'.cell? ⟨b3, 0, none⟩ = some (.int .i64 deepest) ∧ (w'.cell? ⟨b4, 0, none⟩ = some (.int .i64 u) ∧ w'.cell? ⟨b4, 1, none⟩ = some (.int .i64 g) ∧ w'.cell? ⟨b4, 2, none⟩ = some (.int .i64 m) ∧ w'.cell? ⟨b4, 3, none⟩ = some (.int .i64 d)) ∧
        w'.cell? ⟨b5, 0, none⟩ = some (.func (.func 63) #[] #[.pointer (some ⟨sb, 0, none⟩)]) ∧ (w'.cell? ⟨bf, 0, none⟩ = some (.string path) ∧ w'.cell? ⟨bf, 1, none⟩ = some (.int .i64 n) ∧ w'.cell? ⟨bf, 2, none⟩ = some (.int .i64 0) ∧ w'.cell? ⟨bf, 3, none⟩ = some (.bool false))) ∧ Below w.heap.size w w' := by
  go_enter Tryz.func62, Tryz.ntmps62
  go_wp2
  go_ret
  refine ⟨_, _, _, _, _, ⟨rfl, ⟨?_, ?_, ?_, ?_, ?_⟩, ?_, ?_, ⟨?_, ?_, ?_, ?_⟩, ?_, ?_, ?_, ?_, ?_⟩, (by repeat (first | exact Below.refl _ _ | assumption | refine Below.drew ?_ | refine below_drewN ?_ _ | refine below_alloc ?_ _ | refine below_set ?_ (by simp) _ | refine below_step ?_ (by assumption)))⟩
  all_goals first | omega | (simp [go_sem]; done) | trace_state
/-- What walk.Walk answers: refused; nothing there; the steps, and the shut paths, in new memory. -/
def WalkPost (t : TTree) (u g deepest : Int) (p : ByteArray) (R : PlaceV × Int) (w : World) (e : Ending) (w' : World) : Prop :=
  (R.2 ≠ 0 ∧ e = .returned (.tuple #[.slice none 0 0, .slice none 0 0, .int .i64 R.2])) ∨
  (R.2 = 0 ∧ R.1.node = 0 ∧ e = .returned (.tuple #[.slice none 0 0, .slice none 0 0, .int .i64 6])) ∨
  (R.2 = 0 ∧ R.1.node ≠ 0 ∧ ∃ vo vs, e = .returned (.tuple #[vo, vs, .int .i64 0]) ∧ OwnX w' w.heap.size 111 4 vo (stepRows (walkP t u g deepest 40 R.1.node p 0).1) ∧ OwnX w' w.heap.size 9 1 vs (pathRows (walkP t u g deepest 40 R.1.node p 0).2) ∧ ∀ k, vo.ownBlock = some k → vs.ownBlock ≠ some k)
theorem went_sized {B : Nat} {J : (Nat → Prop) → List TStep → List ByteArray → World → Prop} {O : Nat → Prop} {o : List TStep} {s : List ByteArray} {W W' : World} (hB : B ≤ W.heap.size) (h : Went J O o s W W') : Went (fun O o s W => B ≤ W.heap.size ∧ J O o s W) O o s W W' := by
  obtain ⟨O', h1, h2, h3⟩ := h
  exact ⟨O', ⟨Nat.le_trans hB h2.size, h1⟩, h2, h3⟩
theorem own_room {w : World} {B : Nat} {e : TypeId} {z : Nat} {A : Option Addr} {n c : Nat} {rows : List (List Value)} (h : Own w B e z (.slice A n c) rows) : n ≤ c := by
  rcases h.shape with ⟨h1, -⟩ | ⟨g, c', h1, h2, -⟩
  · cases h1; exact Nat.le_refl _
  · cases h1; exact h2
theorem Own.clip {w : World} {B z : Nat} {e : TypeId} {A : Option Addr} {n c : Nat} {rows : List (List Value)} (h : Own w B e z (.slice A n c) rows) : OwnX w B e z (.slice A n n) rows := by
  have hn : n = rows.length := by
    rcases h.shape with ⟨h1, h2⟩ | ⟨g, c', h1, h2⟩
    · simp only [Value.slice.injEq] at h1; rw [h1.2.1, h2]; rfl
    · simp only [Value.slice.injEq] at h1; exact h1.2.1
  subst hn
  exact .inr ⟨A, c, rfl, h⟩
set_option maxHeartbeats 4000000 in
set_option maxRecDepth 100000 in
theorem walk_calls (t : TTree) (hF : t.Fits) (u g m d deepest : Int) (p : ByteArray) (A : Option Addr) (c : Nat) (w : World) (hA : NodesAt w A t.nodes) (R : PlaceV × Int) (hR : findS t u g m d p.data.toList false = R) (hfu : R.2 = 0 → R.1.node ≠ 0 → Fuel t 40 R.1.node p.size)
    (hlen : R.2 = 0 → R.1.node ≠ 0 → (walkP t u g deepest 40 R.1.node p 0).1.length ≤ 1000000 ∧ (walkP t u g deepest 40 R.1.node p 0).2.length ≤ 1000000) :
    Calls Tryz.prog 15 #[.agg #[.slice A t.nodes.length c, .int .i64 t.now], .agg #[.int .i64 u, .int .i64 g, .int .i64 m, .int .i64 d], .string p, .int .i64 deepest] w fun e w' => WalkPost t u g deepest p R w e w' ∧ Below w.heap.size w w' := by
  have HA := Lib.hid hA
  have HR := Lib.hid hR
  have HFU := Lib.hid hfu
  have HLEN := Lib.hid hlen
  clear hA hR hfu hlen
  refine (callsIn_wide (n := 1000)).1 (callsIn_of_wp_marks Tryz.func15 rfl trivial ?_ rfl)
  simp only [Tryz.ntmps15, List.size_toArray, List.length_cons, List.length_nil, Nat.reduceAdd, Nat.reduceSub, Array.replicate_succ, Array.replicate_zero, List.push_toArray, List.append_toArray, List.nil_append, List.cons_append]
  refine wpIn_wide.2 ?_
  go_upto_region 1 with fail
  obtain ⟨wa, hwa⟩ : ∃ y, y = (w.alloc (.cells #[.slice A t.nodes.length c, .int .i64 t.now] 24)).alloc (.cells #[.int .i64 u, .int .i64 g, .int .i64 m, .int .i64 d] 26) := ⟨_, rfl⟩
  have hBa : Below w.heap.size w wa := by rw [hwa]; exact below_alloc (below_alloc (Below.refl _ _) _) _
  have t0 : wa.cell? ⟨w.heap.size, 0, none⟩ = some (.slice A t.nodes.length c) := by rw [hwa]; simp [go_sem]
  have t1 : wa.cell? ⟨w.heap.size, 1, none⟩ = some (.int .i64 t.now) := by rw [hwa]; simp [go_sem]
  have e0 : wa.cell? ⟨w.heap.size + 1, 0, none⟩ = some (.int .i64 u) := by rw [hwa]; simp [go_sem]
  have e1 : wa.cell? ⟨w.heap.size + 1, 1, none⟩ = some (.int .i64 g) := by rw [hwa]; simp [go_sem]
  have e2 : wa.cell? ⟨w.heap.size + 1, 2, none⟩ = some (.int .i64 m) := by rw [hwa]; simp [go_sem]
  have e3 : wa.cell? ⟨w.heap.size + 1, 3, none⟩ = some (.int .i64 d) := by rw [hwa]; simp [go_sem]
  have hsa : wa.heap.size = w.heap.size + 1 + 1 := by rw [hwa]; simp
  rw [← hwa]
  clear hwa
  obtain ⟨wb, hwb⟩ : ∃ y, y = (wa.alloc (.cells #[.slice none 0 0] 32)).alloc (.cells #[.slice none 0 0] 33) := ⟨_, rfl⟩
  have hBb : Below wa.heap.size wa wb := by rw [hwb]; exact below_alloc (below_alloc (Below.refl _ _) _) _
  have hro : wb.heap[w.heap.size + 1 + 1]? = some (.cells #[.slice none 0 0] 32 (0, 0)) := by
    rw [hwb, ← hsa]; exact (Below.heap_alloc _ _ _ (by simp)).trans (heap_alloc_new wa _)
  have hrs : wb.heap[w.heap.size + 1 + 1 + 1]? = some (.cells #[.slice none 0 0] 33 (0, 0)) := by
    have := heap_alloc_new (wa.alloc (.cells #[.slice none 0 0] 32)) (.cells #[.slice none 0 0] 33)
    rw [World.size_alloc, hsa] at this
    rw [hwb]; exact this
  rw [← hwb]
  clear hwb
  replace t0 := cell_keep hBb t0
  replace t1 := cell_keep hBb t1
  replace e0 := cell_keep hBb e0
  replace e1 := cell_keep hBb e1
  replace e2 := cell_keep hBb e2
  replace e3 := cell_keep hBb e3
  have hBB := below_step hBa hBb
  have hsz : w.heap.size + 1 + 1 + 1 < wb.heap.size := (Array.getElem?_eq_some_iff.1 hrs).1
  obtain ⟨bs, hbs⟩ : ∃ y, y = w.heap.size + 1 + 1 + 1 := ⟨_, rfl⟩
  rw [← hbs] at hrs
  rw [← hbs]
  obtain ⟨bo, hbo⟩ : ∃ y, y = w.heap.size + 1 + 1 := ⟨_, rfl⟩
  rw [← hbo] at hro
  rw [← hbo]
  have HBB := Lib.hid hBB
  have HRO := Lib.hid hro
  have HRS := Lib.hid hrs
  have HNN := Lib.hid (And.intro hbo hbs)
  clear hBa hBb hBB hro hrs hsa hbo hbs hsz
  go_upto_region 2 with (go_at_call 61; refine (find_path_calls t hF u g m d p false A c _ (HA.out.keep HBB.out)).mono ?_; rintro _ w1 ⟨rfl, hb1⟩; rw [HR.out]; dsimp only [PlaceV.val, PlaceV.cells])
  obtain ⟨we, hwe⟩ : ∃ y, y = w1.alloc (.cells #[.int .i64 R.1.dir, .string ⟨R.1.name.toArray⟩, .int .i64 R.1.node, .bool R.1.dirs] 114) := ⟨_, rfl⟩
  have hBe : Below wb.heap.size wb we := by rw [hwe]; exact below_alloc hb1 _
  have p2 : we.cell? ⟨w1.heap.size, 2, none⟩ = some (.int .i64 R.1.node) := by rw [hwe, cell_of_row _ _ _ _ _ _ (heap_alloc_new w1 _)]; rfl
  have hwl : wb.heap.size ≤ w1.heap.size := hb1.size
  rw [← hwe]
  obtain ⟨bp, hbp⟩ : ∃ y, y = w1.heap.size := ⟨_, rfl⟩
  rw [← hbp] at p2 hwl
  rw [← hbp]
  replace t0 := cell_keep hBe t0
  replace t1 := cell_keep hBe t1
  replace e0 := cell_keep hBe e0
  replace e1 := cell_keep hBe e1
  replace e2 := cell_keep hBe e2
  replace e3 := cell_keep hBe e3
  have hro := (hBe.block bo (Array.getElem?_eq_some_iff.1 HRO.out).1).trans HRO.out
  have hrs := (hBe.block bs (Array.getElem?_eq_some_iff.1 HRS.out).1).trans HRS.out
  have HBE := Lib.hid (below_step HBB.out hBe)
  have o0 : we.cell? ⟨bo, 0, none⟩ = some (.slice none 0 0) := (cell_of_row we bo 0 _ _ _ hro).trans rfl
  have of : we.frozen? ⟨bo, 0, none⟩ = false := frozen_of_row we bo 0 _ _ hro
  have s0 : we.cell? ⟨bs, 0, none⟩ = some (.slice none 0 0) := (cell_of_row we bs 0 _ _ _ hrs).trans rfl
  have sf : we.frozen? ⟨bs, 0, none⟩ = false := frozen_of_row we bs 0 _ _ hrs
  have HRO2 := Lib.hid hro
  have HRS2 := Lib.hid hrs
  have hnb : bo ≠ bs := by have := HNN.out; omega
  clear hwe hbp hBe hb1 hro hrs HRO HRS
  by_cases hz : R.2 = 0
  · have HZ := Lib.hid hz
    have hzd : decide (R.2 = 0) = true := decide_eq_true hz
    have hzb : (R.2 == 0) = true := beq_iff_eq.2 hz
    have hzn : (R.2 != 0) = false := by rw [hz]; rfl
    clear hz
    by_cases hn : R.1.node = 0
    · have HN := Lib.hid hn
      have hnd : decide (R.1.node = 0) = true := decide_eq_true hn
      have hnb2 : (R.1.node == 0) = true := beq_iff_eq.2 hn
      clear hn
      go_wp2
      have r1 := heap_setCell_same we bo 0 _ _ (.slice none 0 0) HRO2.out
      have r2 := (Below.heap_setCell we ⟨bo, 0, none⟩ (.slice none 0 0) bs (fun e => hnb e.symm)).trans HRS2.out
      have r3 := (Below.heap_setCell (we.setCell ⟨bo, 0, none⟩ (.slice none 0 0)) ⟨bs, 0, none⟩ (.slice none 0 0) bo hnb).trans r1
      have r4 := heap_setCell_same (we.setCell ⟨bo, 0, none⟩ (.slice none 0 0)) bs 0 _ _ (.slice none 0 0) r2
      have hl1 := HNN.out
      refine ⟨_, results_cell2_tmp rfl rfl rfl rfl (run_loadVar_slice _ _ _ _ _ _ Tryz.underlying32 ((cell_of_row _ bo 0 _ _ _ r3).trans rfl)) (run_loadVar_slice _ _ _ _ _ _ Tryz.underlying33 ((cell_of_row _ bs 0 _ _ _ r4).trans rfl)), ?_⟩
      exact ⟨.inr (.inl ⟨HZ.out, HN.out, rfl⟩), (HBE.out.setCell (by dsimp only; omega) _).setCell (by dsimp only; omega) _⟩
    · have HN := Lib.hid hn
      have hnd : decide (R.1.node = 0) = false := decide_eq_false hn
      have hnb2 : (R.1.node == 0) = false := beq_eq_false_iff_ne.2 hn
      clear hn
      go_upto_region 6 with fail
      go_wp2_with (go_at_call 62; refine (steps_calls A t.nodes.length c t.now u g m d deepest R.1.node p bs _).mono ?_; rintro _ ws ⟨b1, b3, b4, b5, bf, ⟨rfl, hgs, k1, k3, ⟨k40, k41, k42, k43⟩, k5, f0, f1, f2, f3⟩, hbs5⟩)
      have hwi : w.heap.size ≤ ws.heap.size ∧ WI w.heap.size bo bs 32 33 111 9 (fun k => k = bo ∨ k = bs ∨ (Value.slice none 0 0).ownBlock = some k ∨ (Value.slice none 0 0).ownBlock = some k) [] [] ws := by
        refine ⟨(below_step HBE.out hbs5).size, _, _, ⟨(hbs5.block bo (Array.getElem?_eq_some_iff.1 HRO2.out).1).trans HRO2.out, (hbs5.block bs (Array.getElem?_eq_some_iff.1 HRS2.out).1).trans HRS2.out, Own.nil _ _ _ _, Own.nil _ _ _ _, fun k => Iff.rfl, hnb, ?_⟩⟩
        refine ⟨?_, ?_, ?_, ?_, ?_⟩ <;> simp [Value.ownBlock]
      refine wp_range_on (T := 111) rfl (enters_of Tryz.func144 (by kernel_rfl) rfl) 12 37 rfl (wi_ok w.heap.size bo bs) hwi ?assign ?body (outs := (walkP t u g deepest 40 R.1.node p 0).1) (shuts := (walkP t u g deepest 40 R.1.node p 0).2) ?iter ?done
      case assign =>
        intro l m x W K hK
        simp only [List.setIfInBounds_toArray, List.set_cons_succ, List.set_cons_zero, TStep.val, TStep.cells] at hK ⊢
        gi_wp2
        exact hK
      case body =>
        rintro l m O o s x hx W ⟨hBW, vo, vs, hwi2⟩ hlen hr hnx
        simp only [List.setIfInBounds_toArray, List.set_cons_succ, List.set_cons_zero, TStep.val]
        obtain ⟨Ao, co, hvo⟩ := own_len hwi2.oo
        have hpl : (stepRows o).length = o.length := by simp [stepRows]
        rw [hpl] at hvo
        subst hvo
        have k1 : W.cell? ⟨bo, 0, none⟩ = some (.slice Ao o.length co) := (cell_of_row W bo 0 _ _ _ hwi2.ro).trans rfl
        have x0 : W.cell? ⟨hx, 0, none⟩ = some (.string x.path) := (cell_of_row W hx 0 _ _ _ hr).trans rfl
        have x1 : W.cell? ⟨hx, 1, none⟩ = some (.int .i64 x.node) := (cell_of_row W hx 1 _ _ _ hr).trans rfl
        have x2 : W.cell? ⟨hx, 2, none⟩ = some (.int .i64 x.depth) := (cell_of_row W hx 2 _ _ _ hr).trans rfl
        have x3 : W.cell? ⟨hx, 3, none⟩ = some (.bool x.after) := (cell_of_row W hx 3 _ _ _ hr).trans rfl
        have HW2 := Lib.hid hwi2
        clear hwi2 hr
        gi_wp2_with (gi_at_builtin
                     refine wpListIn_append_grow rfl _ _ 32 rfl elem_step o.length hpl [.string x.path, .int .i64 x.node, .int .i64 x.depth, .bool x.after] rfl HW2.out.oo hBW rfl rfl (by simp [Value.oneCell']) (by unfold maxLen; omega) (by omega) ?_
                     rintro _ w2 hown2 hg2 hv2 ⟨A5, c5, rfl⟩
                     have hr2 : w2.heap[bo]? = some (.cells #[.slice Ao o.length co] 32 (0, 0)) := (hg2.block bo (Array.getElem?_eq_some_iff.1 HW2.out.ro).1 (fun e => HW2.out.ne.2.1 e.symm)).trans HW2.out.ro
                     have c2 : w2.cell? ⟨bo, 0, none⟩ = some (.slice Ao o.length co) := (cell_of_row w2 bo 0 _ _ _ hr2).trans rfl
                     have f2 := frozen_of_row w2 bo 0 _ _ hr2
                     have HO2 := Lib.hid hown2
                     have HG2 := Lib.hid hg2
                     have HV2 := Lib.hid hv2
                     clear hown2 hg2 hr2 hv2)
        exact went_sized hBW (HW2.out.putStep HO2.out HG2.out HV2.out)
      case iter =>
        intro l J O W hJ hj hb hO
        have hbo := HNN.out
        have hb1 := hgs
        have hszw : ws.heap.size ≤ W.heap.size := hb.size
        have hszb : bs < we.heap.size := (Array.getElem?_eq_some_iff.1 HRS2.out).1
        have q1 := World.block_lt_of_cell? _ _ k1
        have q3 := World.block_lt_of_cell? _ _ k3
        have q4 := World.block_lt_of_cell? _ _ k40
        have q5 := World.block_lt_of_cell? _ _ k5
        dsimp only at q1 q3 q4 q5
        have hoff : ∀ b, we.heap.size ≤ b → b < ws.heap.size → ¬ O b := fun b h1 h2 h => by
          rcases hO b h with (h3 | h3 | h3 | h3) | h3
          · omega
          · omega
          · simp [Value.ownBlock] at h3
          · simp [Value.ownBlock] at h3
          · omega
        have hlow : ∀ k, O k → w.heap.size ≤ k := fun k h => by
          have := HBE.out.size
          have := hbs5.size
          rcases hO k h with (h3 | h3 | h3 | h3) | h3
          · omega
          · omega
          · simp [Value.ownBlock] at h3
          · simp [Value.ownBlock] at h3
          · omega
        exact stepsFn_calls t hF A c deepest u g m d l bs b1 b3 b4 b5 bf 1000000 J hJ w HA.out 40 R.1.node p O W (HFU.out HZ.out HN.out) (by decide) hj hlow (below_step (below_step HBE.out hbs5) hb)
          ⟨hoff _ hb1.1 q1, hoff _ hb1.2.1 q3, hoff _ hb1.2.2.1 q4, hoff _ hb1.2.2.2.1 q5⟩ (cell_keep hb k1) (cell_keep hb k3) (cell_keep hb k40) (cell_keep hb k41) (cell_keep hb k42) (cell_keep hb k43) (cell_keep hb k5) (cell_keep hb f0) (cell_keep hb f1) (cell_keep hb f2) (cell_keep hb f3) (HLEN.out HZ.out HN.out).1 (HLEN.out HZ.out HN.out).2
      case done =>
        rintro D O W ⟨hBW, vo, vs, hwi2⟩ hT hD hdf hO hnD
        obtain ⟨Ao, co, hvo⟩ := own_len hwi2.oo
        obtain ⟨As, cs, hvs⟩ := own_len hwi2.os
        subst hvo hvs
        have hc1 := own_room hwi2.oo
        have hc2 := own_room hwi2.os
        have k1 : W.cell? ⟨bo, 0, none⟩ = some (.slice Ao (stepRows (walkP t u g deepest 40 R.1.node p 0).1).length co) := (cell_of_row W bo 0 _ _ _ hwi2.ro).trans rfl
        have k2 : W.cell? ⟨bs, 0, none⟩ = some (.slice As (pathRows (walkP t u g deepest 40 R.1.node p 0).2).length cs) := (cell_of_row W bs 0 _ _ _ hwi2.rs).trans rfl
        have g1 := frozen_of_row W bo 0 _ _ hwi2.ro
        have g2 := frozen_of_row W bs 0 _ _ hwi2.rs
        have HW2 := Lib.hid hwi2
        have HDF := Lib.hid hdf
        have HTT := Lib.hid hT
        clear hwi2 hdf hT
        go_upto_region 9 with fail
        refine wp_region_still_tail 4 (by kernel_rfl) (by kernel_rfl) ?_
        simp only [List.take_succ_cons, List.take_zero, List.drop_succ_cons, List.drop_zero]
        still_step
        still_call (clipSteps_calls _ _ _ hc1 _)
        still_step
        still_call (clipTexts_calls _ _ _ hc2 _)
        refine wpStill_nil ?_
        change wpList _ _ _ _ _ W.drew
        go_wp2
        have hbo := HNN.out
        have hszb : bs < we.heap.size := (Array.getElem?_eq_some_iff.1 HRS2.out).1
        have hs5 := hbs5.size
        have r1 := heap_setCell_same W bo 0 _ _ (.slice Ao (stepRows (walkP t u g deepest 40 R.1.node p 0).1).length (stepRows (walkP t u g deepest 40 R.1.node p 0).1).length) HW2.out.ro
        have r2 := (Below.heap_setCell W ⟨bo, 0, none⟩ (.slice Ao (stepRows (walkP t u g deepest 40 R.1.node p 0).1).length (stepRows (walkP t u g deepest 40 R.1.node p 0).1).length) bs (fun e => hnb e.symm)).trans HW2.out.rs
        have d1 := (Below.heap_setCell W ⟨bo, 0, none⟩ (.slice Ao (stepRows (walkP t u g deepest 40 R.1.node p 0).1).length (stepRows (walkP t u g deepest 40 R.1.node p 0).1).length) D (by dsimp only; omega)).trans HDF.out
        have t1' : Turned (fun k => k = bo ∨ k = bs ∨ k = D) W (W.setCell ⟨bo, 0, none⟩ (.slice Ao (stepRows (walkP t u g deepest 40 R.1.node p 0).1).length (stepRows (walkP t u g deepest 40 R.1.node p 0).1).length)) :=
          turned_set W bo 0 _ (.inl rfl)
        obtain ⟨wx, hwx⟩ : ∃ y, y = W.setCell ⟨bo, 0, none⟩ (.slice Ao (stepRows (walkP t u g deepest 40 R.1.node p 0).1).length (stepRows (walkP t u g deepest 40 R.1.node p 0).1).length) := ⟨_, rfl⟩
        rw [← hwx] at r1 r2 d1 t1'
        rw [← hwx]
        clear hwx
        have r3 := (Below.heap_setCell wx ⟨bs, 0, none⟩ (.slice As (pathRows (walkP t u g deepest 40 R.1.node p 0).2).length (pathRows (walkP t u g deepest 40 R.1.node p 0).2).length) bo hnb).trans r1
        have r4 := heap_setCell_same wx bs 0 _ _ (.slice As (pathRows (walkP t u g deepest 40 R.1.node p 0).2).length (pathRows (walkP t u g deepest 40 R.1.node p 0).2).length) r2
        have d2 := (Below.heap_setCell wx ⟨bs, 0, none⟩ (.slice As (pathRows (walkP t u g deepest 40 R.1.node p 0).2).length (pathRows (walkP t u g deepest 40 R.1.node p 0).2).length) D (by dsimp only; omega)).trans d1
        have t2' : Turned (fun k => k = bo ∨ k = bs ∨ k = D) W (wx.setCell ⟨bs, 0, none⟩ (.slice As (pathRows (walkP t u g deepest 40 R.1.node p 0).2).length (pathRows (walkP t u g deepest 40 R.1.node p 0).2).length)) :=
          t1'.trans (turned_set wx bs 0 _ (.inr (.inl rfl))) fun _ _ h => h
        obtain ⟨wy, hwy⟩ : ∃ y, y = wx.setCell ⟨bs, 0, none⟩ (.slice As (pathRows (walkP t u g deepest 40 R.1.node p 0).2).length (pathRows (walkP t u g deepest 40 R.1.node p 0).2).length) := ⟨_, rfl⟩
        rw [← hwy] at r3 r4 d2 t2'
        rw [← hwy]
        clear hwy r1 r2 d1 t1'
        have z3 := (World.putObj_heap_other (w := wy.drew) (o := .deferred none) (show bo ≠ D by omega)).trans r3
        have z4 := (World.putObj_heap_other (w := wy.drew) (o := .deferred none) (show bs ≠ D by omega)).trans r4
        have t3' : Turned (fun k => k = bo ∨ k = bs ∨ k = D) W (wy.drew.putObj D (.deferred none)) := (t2'.trans (turned_below (S := fun k => k = bo ∨ k = bs ∨ k = D) (Below.refl wy.heap.size wy).drew) fun _ _ h => h).trans (turned_putObj wy.drew D _ (.inr (.inr rfl))) fun _ _ h => h
        refine ⟨by simp, .inl ⟨_, _, rfl, run_takeDeferred (w := wy.drew) d2, ?_⟩⟩
        refine ⟨_, results_cell2_tmp rfl rfl rfl rfl (run_loadVar_slice _ _ _ _ _ _ Tryz.underlying32 ((cell_of_row _ bo 0 _ _ _ z3).trans rfl)) (run_loadVar_slice _ _ _ _ _ _ Tryz.underlying33 ((cell_of_row _ bs 0 _ _ _ z4).trans rfl)), ?_⟩
        refine ⟨.inr (.inr ⟨HZ.out, HN.out, _, _, rfl, (HW2.out.oo.turned t3' ?_).clip, (HW2.out.os.turned t3' ?_).clip, fun k hk => ?_⟩), ?_⟩
        · rintro k hk (rfl | rfl | rfl)
          · exact HW2.out.ne.2.1 hk
          · exact HW2.out.ne.2.2.1 hk
          · exact hnD ((HW2.out.own _).2 (.inr (.inr (.inl hk))))
        · rintro k hk (rfl | rfl | rfl)
          · exact HW2.out.ne.2.2.2.1 hk
          · exact HW2.out.ne.2.2.2.2.1 hk
          · exact hnD ((HW2.out.own _).2 (.inr (.inr (.inr hk))))
        · have hk2 : (Value.slice Ao (stepRows (walkP t u g deepest 40 R.1.node p 0).1).length (stepRows (walkP t u g deepest 40 R.1.node p 0).1).length).ownBlock = some k := hk
          show (Value.slice As (pathRows (walkP t u g deepest 40 R.1.node p 0).2).length (pathRows (walkP t u g deepest 40 R.1.node p 0).2).length).ownBlock ≠ some k
          rw [own_cap Ao _ _ _ co] at hk2
          rw [own_cap As _ _ _ cs]
          exact HW2.out.ne.2.2.2.2.2 k hk2
        · have hbe := below_step HBE.out hbs5
          refine below_over (below_over hbe HTT.out (fun k hk h => ?_) hbe.size) t3' (fun k hk h => ?_) (Nat.le_trans hbe.size HTT.out.size)
          · rcases h with rfl | rfl | h | h
            · omega
            · omega
            · simp [Value.ownBlock] at h
            · simp [Value.ownBlock] at h
          · have := hbe.size
            rcases h with rfl | rfl | rfl
            · omega
            · omega
            · omega
  · have HZ := Lib.hid hz
    have hzd : decide (R.2 = 0) = false := decide_eq_false hz
    have hzb : (R.2 == 0) = false := beq_eq_false_iff_ne.2 hz
    clear hz
    go_wp2
    have r1 := heap_setCell_same we bo 0 _ _ (.slice none 0 0) HRO2.out
    have r2 := (Below.heap_setCell we ⟨bo, 0, none⟩ (.slice none 0 0) bs (fun e => hnb e.symm)).trans HRS2.out
    have r3 := (Below.heap_setCell (we.setCell ⟨bo, 0, none⟩ (.slice none 0 0)) ⟨bs, 0, none⟩ (.slice none 0 0) bo hnb).trans r1
    have r4 := heap_setCell_same (we.setCell ⟨bo, 0, none⟩ (.slice none 0 0)) bs 0 _ _ (.slice none 0 0) r2
    have hl1 := HNN.out
    refine ⟨_, results_cell2_tmp rfl rfl rfl rfl (run_loadVar_slice _ _ _ _ _ _ Tryz.underlying32 ((cell_of_row _ bo 0 _ _ _ r3).trans rfl)) (run_loadVar_slice _ _ _ _ _ _ Tryz.underlying33 ((cell_of_row _ bs 0 _ _ _ r4).trans rfl)), ?_⟩
    exact ⟨.inl ⟨HZ.out, rfl⟩, (HBE.out.setCell (by dsimp only; omega) _).setCell (by dsimp only; omega) _⟩
end Go.Proofs.YtbfcfjgcmideeaaGreatDoor
