/- walk.Walk's closures, walk.steps, slices.Clip. -/
import Derived.Test.YtdceechakocgfaaDoorCome
import Derived.Test.YtdceechakocgfaaDoorWalkCells
import Derived.Test.YtdceechakocgfaaDoorGrown
namespace Go.Proofs.YtdceechakocgfaaDoor
open Go.RowKit
attribute [local go_sem] Later.cell_eq Oper.semAt_some
theorem wpListIn_append_grow {F : Fence} {n' : Nat} {P : Program} {ops : Array Oper} {rest : List Oper} {o : Oper} {a : Act} {Q : Exit → Act → World → Prop} (hgd : o.guard = none) (s x : Operand) (t : TypeId)
    (ho : o.op = .call { callee := .builtin .append, args := #[s, x], argTypes := #[t, t] }) {B : Nat} {w : World} {e e' : TypeId} {size bytes : Nat} (he : Elem P t e size bytes)
    {v : Value} {rows : List (List Value)} (n : Nat) (hn : rows.length = n) (row : List Value) (hs : a.eval s = v) (hown : Own w B e size v rows) (hB : B ≤ w.heap.size)
    (hx : a.eval x = .slice (some ⟨w.heap.size, 0, none⟩) 1 1) (hl : row.length = size) (h1 : ∀ u ∈ row, u.oneCell' = true) (hm : n + 1 ≤ maxLen) (hbytes : (n + 1) * bytes ≤ 140737488355328)
    (h : ∀ v' w', Own w' B e size v' (rows ++ [row]) → w.grownBy w' v.ownBlock → (v'.ownBlock = v.ownBlock ∨ ∃ k, v'.ownBlock = some k ∧ w.heap.size ≤ k) → (∃ A c, v' = .slice A (n + 1) c) → wpListIn F n' P ops Q rest (a.put o.dst v') w') :
    wpListIn F n' P ops Q (o :: rest) a (w.alloc (.cells row.toArray e')) := by
  subst hn
  obtain ⟨i, z, ht, hi, hz, hsize, hby, hzs, hsz⟩ := he.ex
  refine wpListIn_plain hgd fun K hK => ?_
  have hnews : ∀ j u, row[j]? = some u → (w.alloc (.cells row.toArray e')).cell? ((⟨w.heap.size, 0, none⟩ : Addr).add j) = some u := by
    intro j u hj
    rw [show (⟨w.heap.size, 0, none⟩ : Addr).add j = ⟨w.heap.size, j, none⟩ by unfold Addr.add; split <;> simp_all, cell_of_row _ w.heap.size j _ _ _ (heap_alloc_new _ _)]
    simpa using hj
  have hl1 : row.length = 1 * size := by rw [hl, Nat.one_mul]
  obtain ⟨v', w', hr, h2, h3, h4, h5⟩ := run_append_own_at (P := P) (w.alloc (.cells row.toArray e')) B t o.type e i z size bytes ht hi hz hsize hby hzs hsz v rows.length rows.flatten (hown.own.alloc _) ⟨w.heap.size, 0, none⟩ 1 1 row hl1 hnews h1 hm hbytes (by simp; omega)
  have hO : Own w' B e size v' (rows ++ [row]) := ⟨by simpa using h2, fun r hr => by
    rcases List.mem_append.1 hr with h | h
    · exact hown.each r h
    · rw [List.mem_singleton.1 h]; exact hl⟩
  obtain ⟨A, c, hA⟩ := own_len hO
  unfold Oper.wpIn
  refine ⟨?_, ?_⟩
  · simp [Oper.about, ho, resolve, Target.leads, Sem.run_pure]
  · rw [Oper.semAt_plain F _ _ (by rw [ho]; intro c hc'; cases hc')]
    simp [execOp, ho, resolve, invoke, builtin, hs, hx, hr, Result.andThen]
    exact hK _ _ (h v' w' hO (World.grownBy.trans (World.grownBy_alloc _ _ _) h3) (h5.imp id fun h => ⟨_, h, by simp⟩) ⟨A, c, by simpa using hA⟩)
theorem elem_step : Elem Tryd.prog 31 37 4 40 := Elem.mk' (z := .agg #[.string ⟨#[]⟩, .int .i64 0, .int .i64 0, .bool false]) Tryd.underlying31 (by kernel_rfl) rfl (by decide)
theorem elem_strw : Elem Tryd.prog 32 9 1 16 := Elem.mk' (z := .string ⟨#[]⟩) Tryd.underlying32 (by kernel_rfl) rfl (by decide)
set_option maxHeartbeats 2000000 in
theorem walkShut_calls (B bo bs : Nat) (O : Nat → Prop) (o : List TStep) (s : List ByteArray) (p : ByteArray) (W : World) (hB : B ≤ W.heap.size) (h : WI B bo bs 31 32 37 9 O o s W) (hs : s.length < 1000000) :
    Calls Tryd.prog 15 #[.string p, .pointer (some ⟨bs, 0, none⟩)] W fun e W' => e = .returned (.tuple #[]) ∧ Went (WI B bo bs 31 32 37 9) O o (s ++ [p]) W W' := by
  obtain ⟨vo, vs, hw⟩ := h
  obtain ⟨A, c, hvs⟩ := own_len hw.os
  have hpl : (pathRows s).length = s.length := by simp [pathRows]
  rw [hpl] at hvs
  subst hvs
  have k1 : W.cell? ⟨bs, 0, none⟩ = some (.slice A s.length c) := (cell_of_row W bs 0 _ _ _ hw.rs).trans rfl
  have HW := Lib.hid hw
  clear hw
  go_enter Tryd.func15, Tryd.ntmps15
  go_wp2_with (at_builtin
               refine wpList_append_grow rfl _ _ 32 rfl elem_strw s.length hpl [.string p] rfl HW.out.os hB rfl rfl (by simp [Value.oneCell']) (by unfold maxLen; omega) (by omega) ?_
               rintro _ w2 hown2 hg2 hv2 ⟨A5, c5, rfl⟩
               have hr2 : w2.heap[bs]? = some (.cells #[.slice A s.length c] 32 (0, 0)) := (hg2.block bs (Array.getElem?_eq_some_iff.1 HW.out.rs).1 (fun e => HW.out.ne.2.2.2.2.1 e.symm)).trans HW.out.rs
               have c2 : w2.cell? ⟨bs, 0, none⟩ = some (.slice A s.length c) := (cell_of_row w2 bs 0 _ _ _ hr2).trans rfl
               have f2 := frozen_of_row w2 bs 0 _ _ hr2
               have HO2 := Lib.hid hown2
               have HG2 := Lib.hid hg2
               have HV2 := Lib.hid hv2
               clear hown2 hg2 hr2 hv2)
  refine bodyPost_end (v := .tuple #[]) (by kernel_rfl) rfl ?_
  exact ⟨rfl, HW.out.putPath HO2.out HG2.out (HV2.out.imp id fun ⟨k, h1, h2, _⟩ => ⟨k, h1, h2⟩)⟩
theorem wi_ok (B bo bs : Nat) : IOK Tryd.prog 15 bs 1000000 (fun O o s W => B ≤ W.heap.size ∧ WI B bo bs 31 32 37 9 O o s W) := by
  refine ⟨fun O o s W ⟨_, vo, vs, h⟩ => h.lt, fun O o s W W' ⟨h1, h2⟩ ht => ⟨Nat.le_trans h1 ht.size, h2.turned ht⟩, fun O o s p W ⟨h1, h2⟩ hs => ?_⟩
  refine (walkShut_calls B bo bs O o s p W h1 h2 hs).mono ?_
  rintro e W' ⟨he, O', e1, e2, e3⟩
  exact ⟨he, O', ⟨Nat.le_trans h1 e2.size, e1⟩, e2, e3⟩
theorem clipSteps_calls (A : Option Addr) (n c : Nat) (hc : n ≤ c) (w : World) :
    Calls Tryd.prog 16 #[.slice A n c] w fun e w' => e = .returned (.slice A n n) ∧ w' = w := by
  go_enter Tryd.func16, Tryd.ntmps16
  go_wp2
  go_ret
  exact ⟨rfl, rfl⟩
theorem clipTexts_calls (A : Option Addr) (n c : Nat) (hc : n ≤ c) (w : World) :
    Calls Tryd.prog 17 #[.slice A n c] w fun e w' => e = .returned (.slice A n n) ∧ w' = w := by
  go_enter Tryd.func17, Tryd.ntmps17
  go_wp2
  go_ret
  exact ⟨rfl, rfl⟩
set_option maxHeartbeats 2000000 in
/-- walk.steps' function, handed a round: all steps, and all shut paths, from the node on. -/
theorem stepsFn_calls (t : TTree) (hF : t.Fits) (A : Option Addr) (cap : Nat) (deepest u g m d : Int) (l sb b1 b3 b4 b5 bf M : Nat) (J : (Nat → Prop) → List TStep → List ByteArray → World → Prop) (hJ : JOK Tryd.prog 15 l sb M J) (W0 : World) (hA : NodesAt W0 A t.nodes)
    (fuel : Nat) (n : Int) (path : ByteArray) (O : Nat → Prop) (W : World) (hfu : Fuel t fuel n path.size) (hfl : fuel ≤ 10000) (hj : J O [] [] W) (hO : ∀ k, O k → W0.heap.size ≤ k) (hB : Below W0.heap.size W0 W)
    (hoff : ¬ O b1 ∧ ¬ O b3 ∧ ¬ O b4 ∧ ¬ O b5) (k1 : W.cell? ⟨b1, 0, none⟩ = some (.slice A t.nodes.length cap)) (k3 : W.cell? ⟨b3, 0, none⟩ = some (.int .i64 deepest)) (e0 : W.cell? ⟨b4, 0, none⟩ = some (.int .i64 u)) (e1 : W.cell? ⟨b4, 1, none⟩ = some (.int .i64 g)) (e2 : W.cell? ⟨b4, 2, none⟩ = some (.int .i64 m)) (e3 : W.cell? ⟨b4, 3, none⟩ = some (.int .i64 d))
    (k5 : W.cell? ⟨b5, 0, none⟩ = some (.func (.func 15) #[] #[.pointer (some ⟨sb, 0, none⟩)])) (f0 : W.cell? ⟨bf, 0, none⟩ = some (.string path)) (f1 : W.cell? ⟨bf, 1, none⟩ = some (.int .i64 n)) (f2 : W.cell? ⟨bf, 2, none⟩ = some (.int .i64 0)) (f3 : W.cell? ⟨bf, 3, none⟩ = some (.bool false))
    (ho : (walkP t u g deepest fuel n path 0).1.length ≤ M) (hs : (walkP t u g deepest fuel n path 0).2.length ≤ M) :
    Calls Tryd.prog 27 #[.func (.yield l) #[] #[], .pointer (some ⟨b1, 0, none⟩), .pointer (some ⟨b3, 0, none⟩), .pointer (some ⟨b4, 0, none⟩), .pointer (some ⟨b5, 0, none⟩), .pointer (some ⟨bf, 0, none⟩)] W fun e W' => (∃ v, e = .returned v) ∧ Went J O (walkP t u g deepest fuel n path 0).1 (walkP t u g deepest fuel n path 0).2 W W' := by
  have hlt := hJ.lt _ _ _ _ hj
  have HIN := Lib.hid (And.intro hfu (And.intro hj (And.intro hO hB)))
  have HOFF := Lib.hid hoff
  have HLT := Lib.hid hlt
  have HSZ := Lib.hid (And.intro ho hs)
  clear hfu hj hO hB hoff hlt ho hs
  go_enter Tryd.func27, Tryd.ntmps27
  go_upto_region 3 with fail
  obtain ⟨wc, hwc⟩ : ∃ y, y = (W.alloc (.cells #[.func (.yield l) #[] #[]] 79)).alloc (.cells #[.func (.func 28) #[] #[.pointer (some ⟨b1, 0, none⟩), .pointer (some ⟨W.heap.size, 0, none⟩), .pointer (some ⟨b3, 0, none⟩), .pointer (some ⟨b4, 0, none⟩), .pointer (some ⟨b5, 0, none⟩), .pointer (some ⟨W.heap.size + 1, 0, none⟩)]] 79) := ⟨_, rfl⟩
  have hBc : Below W.heap.size W wc := by rw [hwc]; exact below_alloc (below_alloc (Below.refl _ _) _) _
  have y2 : wc.cell? ⟨W.heap.size, 0, none⟩ = some (.func (.yield l) #[] #[]) := by
    rw [hwc, cell_of_row _ W.heap.size 0 _ _ _ ((Below.heap_alloc _ _ _ (by simp)).trans (heap_alloc_new W _))]; rfl
  have y6 : wc.cell? ⟨W.heap.size + 1, 0, none⟩ = some (.func (.func 28) #[] #[.pointer (some ⟨b1, 0, none⟩), .pointer (some ⟨W.heap.size, 0, none⟩), .pointer (some ⟨b3, 0, none⟩), .pointer (some ⟨b4, 0, none⟩), .pointer (some ⟨b5, 0, none⟩), .pointer (some ⟨W.heap.size + 1, 0, none⟩)]) := by
    have := heap_alloc_new (W.alloc (.cells #[.func (.yield l) #[] #[]] 79)) (.cells #[.func (.func 28) #[] #[.pointer (some ⟨b1, 0, none⟩), .pointer (some ⟨W.heap.size, 0, none⟩), .pointer (some ⟨b3, 0, none⟩), .pointer (some ⟨b4, 0, none⟩), .pointer (some ⟨b5, 0, none⟩), .pointer (some ⟨W.heap.size + 1, 0, none⟩)]] 79)
    rw [World.size_alloc] at this
    rw [hwc, cell_of_row _ (W.heap.size + 1) 0 _ _ _ this]; rfl
  rw [← hwc]
  obtain ⟨b2, hb2⟩ : ∃ y, y = W.heap.size := ⟨_, rfl⟩
  have o2 : ¬ O b2 := fun h => by have := HLT.out _ h; omega
  have o6 : ¬ O (b2 + 1) := fun h => by have := HLT.out _ h; omega
  rw [← hb2] at y2 y6
  rw [← hb2]
  have hcap : Cap 28 15 wc O b1 b2 b3 b4 b5 (b2 + 1) A t.nodes.length cap deepest u g m d l sb :=
    ⟨⟨HOFF.out.1, o2, HOFF.out.2.1, HOFF.out.2.2.1, HOFF.out.2.2.2, o6⟩, cell_keep hBc k1, y2, cell_keep hBc k3, cell_keep hBc e0, cell_keep hBc e1, cell_keep hBc e2, cell_keep hBc e3, cell_keep hBc k5, y6⟩
  have HCAP := Lib.hid hcap
  have HBC := Lib.hid hBc
  replace f0 := cell_keep hBc f0
  replace f1 := cell_keep hBc f1
  replace f2 := cell_keep hBc f2
  replace f3 := cell_keep hBc f3
  clear hwc hb2 hBc hcap k1 k3 e0 e1 e2 e3 k5 y2 o2 o6
  go_wp2_with (go_at_call 28; refine (come_calls t hF A cap deepest u g m d l sb b1 b2 b3 b4 b5 (b2 + 1) M J hJ W0 hA fuel n path 0 O [] [] _ HIN.out.1 (by decide) (by omega) HCAP.out (hJ.keep HIN.out.2.1 HBC.out) HIN.out.2.2.1 (below_step HIN.out.2.2.2 HBC.out) (by simpa using HSZ.out.1) (by simpa using HSZ.out.2)).mono ?_; rintro _ w3 ⟨rfl, hw3⟩)
  refine bodyPost_end (v := .tuple #[]) (by kernel_rfl) rfl ?_
  exact ⟨⟨_, rfl⟩, hw3.from HBC.out⟩
end Go.Proofs.YtdceechakocgfaaDoor
