/- great of the paths' laws; an argument that is a tree, somebody, a path. -/
import Derived.Test.YtdidhelkmnkhcaaGreatDoorFind
import Derived.Test.YtdidhelkmnkhcaaGreatDoorGreat
import Derived.Test.YtdidhelkmnkhcaaGreatDoorM8
namespace Go.Proofs.YtdidhelkmnkhcaaGreatDoor
open Go.RowKit
attribute [local go_sem] Later.cell_eq
def Great14 (t : TTree) (p : ByteArray) (w : World) (e : Ending) (w' : World) : Prop := ∃ b : Bool, (e = .returned (.bool b) ∧ (b = false → t.size ≤ 100000 ∧ p.size ≤ 20000)) ∧ Below w.heap.size w w'
set_option maxHeartbeats 2000000 in
theorem great14_calls (t : TTree) (hF : t.Fits) (p : ByteArray) (hp : p.size ≤ 140737488355328) (A : Option Addr) (c : Nat) (w : World) (hA : NodesAt w A t.nodes) :
    Calls Tryz.prog 14 #[.agg #[.slice A t.nodes.length c, .int .i64 t.now], .string p] w (Great14 t p w) := by
  have HF := Lib.hid hF
  have HA := Lib.hid hA
  clear hF hA
  go_enter Tryz.func14, Tryz.ntmps14
  go_wp2_with (go_at_call 28; refine (treeSize_calls t HF.out A c _ (HA.out.keep (below_alloc (Below.refl _ _) _))).mono ?_; rintro _ w1 ⟨q, ⟨rfl, hq2⟩, hb1⟩; have HQ := Lib.hid hq2; clear hq2)
  all_goals go_ret
  all_goals refine ⟨_, ⟨rfl, fun h => ?_⟩, below_step (below_alloc (Below.refl _ _) _) hb1⟩
  all_goals simp at h
  all_goals
    have h1 : ¬ 100000 < (q : Int) := by omega
    rw [← HQ.out (by omega)]
    omega
theorem find_lit_calls (t : TTree) (hF : t.Fits) (u g m d : Int) (p : ByteArray) (follow : Bool) (D : Int) (s : ByteArray) (n : Int) (b : Bool) (k : Int) (h : findS t u g m d p.data.toList follow = (⟨D, s.data.toList, n, b⟩, k)) (A : Option Addr) (c : Nat) (w : World) (hA : NodesAt w A t.nodes) :
    Calls Tryz.prog 17 #[.agg #[.slice A t.nodes.length c, .int .i64 t.now], .agg #[.int .i64 u, .int .i64 g, .int .i64 m, .int .i64 d], .string p, .bool follow] w fun e w' => e = .returned (.tuple #[.agg #[.int .i64 D, .string s, .int .i64 n, .bool b], .int .i64 k]) ∧ Below w.heap.size w w' := by
  have := find_path_calls t hF u g m d p follow A c w hA
  rw [h] at this
  simp only [PlaceV.val, PlaceV.cells, bytes_back] at this
  exact this
theorem find_shape (t : TTree) (u g m d : Int) (p : List UInt8) (follow : Bool) : ∃ (D : Int) (s : ByteArray) (n : Int) (b : Bool) (k : Int), findS t u g m d p follow = (⟨D, s.data.toList, n, b⟩, k) :=
  ⟨(findS t u g m d p follow).1.dir, ⟨(findS t u g m d p follow).1.name.toArray⟩, (findS t u g m d p follow).1.node, (findS t u g m d p follow).1.dirs, (findS t u g m d p follow).2, rfl⟩
end Go.Proofs.YtdidhelkmnkhcaaGreatDoor
