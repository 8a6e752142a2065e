/- Small blocks, cell by cell. -/
import Derived.Test.YtdidhelkmnkhcaaDoorClimb
import Derived.Laws.Rows
namespace Go.Proofs.YtdidhelkmnkhcaaDoor
open Go.RowKit
theorem row2 {w : World} {b : Nat} {ty : TypeId} {v0 v1 : Value} (h : w.heap[b]? = some (.cells #[v0, v1] ty (0, 0))) :
    (w.cell? ⟨b, 0, none⟩ = some v0 ∧ w.cell? ⟨b, 1, none⟩ = some v1) ∧ w.frozen? ⟨b, 0, none⟩ = false ∧ w.frozen? ⟨b, 1, none⟩ = false ∧ b < w.heap.size := ⟨⟨(cell_of_row w b 0 _ ty (0, 0) h).trans rfl, (cell_of_row w b 1 _ ty (0, 0) h).trans rfl⟩, frozen_of_row w b 0 _ ty h, frozen_of_row w b 1 _ ty h, (Array.getElem?_eq_some_iff.1 h).1⟩
theorem row8 {w : World} {b : Nat} {ty : TypeId} {v0 v1 v2 v3 v4 v5 v6 v7 : Value} (h : w.heap[b]? = some (.cells #[v0, v1, v2, v3, v4, v5, v6, v7] ty (0, 0))) :
    (w.cell? ⟨b, 0, none⟩ = some v0 ∧ w.cell? ⟨b, 1, none⟩ = some v1 ∧ w.cell? ⟨b, 2, none⟩ = some v2 ∧ w.cell? ⟨b, 3, none⟩ = some v3 ∧ w.cell? ⟨b, 4, none⟩ = some v4 ∧ w.cell? ⟨b, 5, none⟩ = some v5 ∧ w.cell? ⟨b, 6, none⟩ = some v6 ∧ w.cell? ⟨b, 7, none⟩ = some v7) ∧ w.frozen? ⟨b, 0, none⟩ = false ∧ w.frozen? ⟨b, 1, none⟩ = false ∧ w.frozen? ⟨b, 2, none⟩ = false ∧ w.frozen? ⟨b, 3, none⟩ = false ∧ w.frozen? ⟨b, 4, none⟩ = false ∧ w.frozen? ⟨b, 5, none⟩ = false ∧ w.frozen? ⟨b, 6, none⟩ = false ∧ w.frozen? ⟨b, 7, none⟩ = false ∧ b < w.heap.size := ⟨⟨(cell_of_row w b 0 _ ty (0, 0) h).trans rfl, (cell_of_row w b 1 _ ty (0, 0) h).trans rfl, (cell_of_row w b 2 _ ty (0, 0) h).trans rfl, (cell_of_row w b 3 _ ty (0, 0) h).trans rfl, (cell_of_row w b 4 _ ty (0, 0) h).trans rfl, (cell_of_row w b 5 _ ty (0, 0) h).trans rfl, (cell_of_row w b 6 _ ty (0, 0) h).trans rfl, (cell_of_row w b 7 _ ty (0, 0) h).trans rfl⟩, frozen_of_row w b 0 _ ty h, frozen_of_row w b 1 _ ty h, frozen_of_row w b 2 _ ty h, frozen_of_row w b 3 _ ty h, frozen_of_row w b 4 _ ty h, frozen_of_row w b 5 _ ty h, frozen_of_row w b 6 _ ty h, frozen_of_row w b 7 _ ty h, (Array.getElem?_eq_some_iff.1 h).1⟩
theorem row10 {w : World} {b : Nat} {ty : TypeId} {v0 v1 v2 v3 v4 v5 v6 v7 v8 v9 : Value} (h : w.heap[b]? = some (.cells #[v0, v1, v2, v3, v4, v5, v6, v7, v8, v9] ty (0, 0))) :
    (w.cell? ⟨b, 0, none⟩ = some v0 ∧ w.cell? ⟨b, 1, none⟩ = some v1 ∧ w.cell? ⟨b, 2, none⟩ = some v2 ∧ w.cell? ⟨b, 3, none⟩ = some v3 ∧ w.cell? ⟨b, 4, none⟩ = some v4 ∧ w.cell? ⟨b, 5, none⟩ = some v5 ∧ w.cell? ⟨b, 6, none⟩ = some v6 ∧ w.cell? ⟨b, 7, none⟩ = some v7 ∧ w.cell? ⟨b, 8, none⟩ = some v8 ∧ w.cell? ⟨b, 9, none⟩ = some v9) ∧ w.frozen? ⟨b, 0, none⟩ = false ∧ w.frozen? ⟨b, 1, none⟩ = false ∧ w.frozen? ⟨b, 2, none⟩ = false ∧ w.frozen? ⟨b, 3, none⟩ = false ∧ w.frozen? ⟨b, 4, none⟩ = false ∧ w.frozen? ⟨b, 5, none⟩ = false ∧ w.frozen? ⟨b, 6, none⟩ = false ∧ w.frozen? ⟨b, 7, none⟩ = false ∧ w.frozen? ⟨b, 8, none⟩ = false ∧ w.frozen? ⟨b, 9, none⟩ = false ∧ b < w.heap.size := ⟨⟨(cell_of_row w b 0 _ ty (0, 0) h).trans rfl, (cell_of_row w b 1 _ ty (0, 0) h).trans rfl, (cell_of_row w b 2 _ ty (0, 0) h).trans rfl, (cell_of_row w b 3 _ ty (0, 0) h).trans rfl, (cell_of_row w b 4 _ ty (0, 0) h).trans rfl, (cell_of_row w b 5 _ ty (0, 0) h).trans rfl, (cell_of_row w b 6 _ ty (0, 0) h).trans rfl, (cell_of_row w b 7 _ ty (0, 0) h).trans rfl, (cell_of_row w b 8 _ ty (0, 0) h).trans rfl, (cell_of_row w b 9 _ ty (0, 0) h).trans rfl⟩, frozen_of_row w b 0 _ ty h, frozen_of_row w b 1 _ ty h, frozen_of_row w b 2 _ ty h, frozen_of_row w b 3 _ ty h, frozen_of_row w b 4 _ ty h, frozen_of_row w b 5 _ ty h, frozen_of_row w b 6 _ ty h, frozen_of_row w b 7 _ ty h, frozen_of_row w b 8 _ ty h, frozen_of_row w b 9 _ ty h, (Array.getElem?_eq_some_iff.1 h).1⟩
theorem results_cell {P : Program} {fn : Func} {tmps : Array Value} {w : World} {a : Tmp} {t : TypeId} {p : Addr} {v : Value} (hr : fn.results = #[.cell a t]) (ha : tmps.getD a undef = .pointer (some p)) (hl : (loadVar t p).run P w = .ok v w) :
    (results fn tmps).run P w = .ok v w := by
  rw [Array.getD_eq_getD_getElem?] at ha
  unfold results
  rw [hr]
  simp only [Array.mapM_eq_mapM_toList]
  simp [ha, asAddr, hl]
theorem results_cell_tmp {P : Program} {fn : Func} {tmps : Array Value} {w : World} {a b : Tmp} {t : TypeId} {p : Addr} {v u : Value} (hr : fn.results = #[.cell a t, .tmp b]) (ha : tmps.getD a undef = .pointer (some p)) (hb : tmps.getD b undef = u) (hl : (loadVar t p).run P w = .ok v w) :
    (results fn tmps).run P w = .ok (.tuple #[v, u]) w := by
  rw [Array.getD_eq_getD_getElem?] at ha hb
  unfold results
  rw [hr]
  simp only [Array.mapM_eq_mapM_toList]
  simp [ha, asAddr, hl, hb]
end Go.Proofs.YtdidhelkmnkhcaaDoor
