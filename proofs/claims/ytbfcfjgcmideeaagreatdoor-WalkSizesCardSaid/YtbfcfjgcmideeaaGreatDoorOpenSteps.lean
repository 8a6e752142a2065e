/- A slice of steps among the arguments, opened. -/
import Derived.Test.YtbfcfjgcmideeaaGreatDoorM8
import Derived.Test.YtbfcfjgcmideeaaGreatDoorLawSizes
namespace Go.Proofs.YtbfcfjgcmideeaaGreatDoor
open Go.ChangeShapes Go.WideShapes Go.ChangeAt Go.RowKit Go.Deep
set_option maxRecDepth 100000 in
theorem steps_open {H : Type} {enc : TypeId × Value → H} {w : World} {base : Nat} {spare : Nat → Bool} {held : Bool} {r : Reach} {b0 : Nat} {v : Value} {d : DataW H} {p : List MemPlace} (hv : Value.okWide Tryz.prog w r b0 32 v)
    (h : DataW.Trod enc Tryz.prog w base spare held 32 v d p) (hw : Weighed Tryz.prog 32 d) :
    ∃ A c, ∃ l : List TStep, v = .slice A l.length c ∧ StepsAt w A l ∧ l.length ≤ 140737488355328 ∧ ∀ x ∈ l, StepFit x := by
  obtain ⟨A1, n1, c1, rfl⟩ := okWide_slice Tryz.underlying32 hv
  obtain ⟨fuel, hf⟩ := h
  rcases open_slice Tryz.underlying32 hf with ⟨hv, -⟩ | ⟨a, len, cap, m, k, D, Pl, hv, -, hlc, -, hm, hx, hi⟩
  · simp [Value.cells] at hv
    obtain ⟨rfl, rfl, rfl⟩ := hv
    exact ⟨none, 0, [], rfl, fun k e hk => by simp at hk, by simp, fun e he => by cases he⟩
  · simp [Value.cells] at hv
    obtain ⟨rfl, rfl, rfl⟩ := hv
    simp only [Prod.mk.injEq] at hx
    obtain ⟨rfl, -⟩ := hx
    obtain ⟨hsz, hel⟩ := hw.slice Tryz.underlying32
    rw [show Tryz.prog.bytesOf 111 = 40 by kernel_rfl, List.length_map, List.length_range] at hsz
    have hlen : n1 * 40 ≤ reachBytes := Nat.le_trans (Nat.mul_le_mul_right _ (Nat.le_add_right _ _)) hsz
    have hrb := reachBytes_lt
    obtain ⟨l, hl, hq⟩ := list_of (n := n1) (Q := fun i (e : TStep) => StepFit e ∧ w.cell? (a.add (i * 4)) = some (.string e.path) ∧ w.cell? (a.add (i * 4 + 1)) = some (.int .i64 e.node) ∧ w.cell? (a.add (i * 4 + 2)) = some (.int .i64 e.depth) ∧ w.cell? (a.add (i * 4 + 3)) = some (.bool e.after)) fun i hil => by
      obtain ⟨cs', hc, ht⟩ := hi i (by rw [hm]; split <;> omega)
      obtain ⟨ys, k2, hD, hyl, hf⟩ := fields_of Tryz.underlying111 (by kernel_rfl) (by kernel_rfl) hc ht
      obtain ⟨v0, y0, c0, hy0, t0⟩ := hf 0 _ rfl
      obtain ⟨v1, y1, c1, hy1, t1⟩ := hf 1 _ rfl
      obtain ⟨v2, y2, c2, hy2, t2⟩ := hf 2 _ rfl
      obtain ⟨v3, y3, c3, hy3, t3⟩ := hf 3 _ rfl
      have hwD : Weighed Tryz.prog 111 (D i) := hel _ (List.mem_map.2 ⟨i, List.mem_range.2 hil, rfl⟩)
      rw [hD] at hwD
      obtain ⟨s, e0, hy0', -⟩ := DataW.trod_string Tryz.underlying9 t0
      obtain ⟨q, e1, -, hwf⟩ := DataW.trod_int Tryz.underlying3 t1
      obtain ⟨q2, e2, -, hwf2⟩ := DataW.trod_int Tryz.underlying3 t2
      obtain ⟨q3, e3, -⟩ := DataW.trod_bool Tryz.underlying4 t3
      cases e0
      cases e1
      cases e2
      cases e3
      have hs := (hwD.field Tryz.underlying111 (j := 0) rfl (d := y0.1) (by simp [hy0]))
      rw [hy0'] at hs
      have hs2 := Weighed.string hs
      rw [show Tryz.prog.cellsOf 111 = 4 by kernel_rfl, add_add] at c0 c1 c2 c3
      exact ⟨⟨s, q, q2, q3⟩, ⟨by rw [Array.length_toList] at hs2; have h0 : s.size = s.data.size := rfl; show s.size ≤ _; omega, wf_i64 hwf, wf_i64 hwf2⟩, c0, c1, c2, c3⟩
    refine ⟨some a, c1, l, by rw [hl], fun k e hk => ?_, by omega, fun e he => ?_⟩
    · obtain ⟨-, c0, c1, c2, c3⟩ := hq k e hk
      have hsp : a.spot = none := by
        have hk0 : 0 < l.length := by have := (List.getElem?_eq_some_iff.1 hk).1; omega
        obtain ⟨-, c0', -⟩ := hq 0 _ (List.getElem?_eq_getElem hk0)
        have := World.cell?_spot c0'
        rw [Nat.zero_mul] at this
        exact this
      rw [add_plain hsp] at c0 c1 c2 c3
      obtain ⟨b, o, sp⟩ := a
      dsimp only at hsp c0 c1 c2 c3
      subst hsp
      exact ⟨b, o, rfl, c0, by rw [← Nat.add_assoc] at c1; exact c1, by rw [← Nat.add_assoc] at c2; exact c2, by rw [← Nat.add_assoc] at c3; exact c3⟩
    · obtain ⟨k, hk⟩ := List.getElem?_of_mem he
      exact (hq k e hk).1
end Go.Proofs.YtbfcfjgcmideeaaGreatDoor
