/- The Book: a kind without lists is filled, grown and looked at in no round. -/
import Derived.Test.YtdceechakocgfaaGreatDoorKeep
namespace Go.Proofs.YtdceechakocgfaaGreatDoor
open Go.RowKit
theorem fillInt_none (w : World) (bk : Nat) (cs : Array Value) (hbk : w.heap[bk]? = some (.cells cs 35 (0, 0))) (hj : cs[2]? = some (.slice none 0 0)) :
    Calls Tryz.prog 38 #[.pointer (some ⟨bk, 0, none⟩)] w fun e w' => e = .returned (.tuple #[]) ∧ w' = w := by
  have k1 := (cell_of_row w bk 2 _ _ _ hbk).trans hj
  clear hbk hj
  go_enter Tryz.func38, Tryz.ntmps38
  go_wp2
  go_loopg [2] 0 (fun g s2 wr => g = 0 ∧ s2 = .int .i64 0 ∧ wr = w)
  case atStart => exact ⟨rfl, rfl, rfl⟩
  case round =>
    obtain ⟨rfl, rfl, rfl⟩ := hrel
    go_wp2
    refine bodyPost_end (v := .tuple #[]) (by kernel_rfl) rfl ?_
    exact ⟨rfl, rfl⟩
theorem growInt_none (w : World) (bk : Nat) (cs : Array Value) (hbk : w.heap[bk]? = some (.cells cs 35 (0, 0))) (hj : cs[2]? = some (.slice none 0 0)) :
    Calls Tryz.prog 50 #[.pointer (some ⟨bk, 0, none⟩)] w fun e w' => e = .returned (.tuple #[]) ∧ w' = w := by
  have k1 := (cell_of_row w bk 2 _ _ _ hbk).trans hj
  clear hbk hj
  go_enter Tryz.func50, Tryz.ntmps50
  go_wp2
  go_loopg [2] 0 (fun g s2 wr => g = 0 ∧ s2 = .int .i64 0 ∧ wr = w)
  case atStart => exact ⟨rfl, rfl, rfl⟩
  case round =>
    obtain ⟨rfl, rfl, rfl⟩ := hrel
    go_wp2
    refine bodyPost_end (v := .tuple #[]) (by kernel_rfl) rfl ?_
    exact ⟨rfl, rfl⟩
theorem lookInt_none (w : World) (bk : Nat) (cs : Array Value) (hbk : w.heap[bk]? = some (.cells cs 35 (0, 0))) (hj : cs[2]? = some (.slice none 0 0)) :
    Calls Tryz.prog 62 #[.pointer (some ⟨bk, 0, none⟩)] w fun e w' => e = .returned (.bool true) ∧ w' = w := by
  have k1 := (cell_of_row w bk 2 _ _ _ hbk).trans hj
  clear hbk hj
  go_enter Tryz.func62, Tryz.ntmps62
  go_wp2
  go_loopg [3] 0 (fun g s3 wr => g = 0 ∧ s3 = .int .i64 0 ∧ wr = w)
  case atStart => exact ⟨rfl, rfl, rfl⟩
  case round =>
    obtain ⟨rfl, rfl, rfl⟩ := hrel
    go_wp2
    go_ret
    exact ⟨rfl, rfl⟩
theorem fillText_none (w : World) (bk : Nat) (cs : Array Value) (hbk : w.heap[bk]? = some (.cells cs 35 (0, 0))) (hj : cs[3]? = some (.slice none 0 0)) :
    Calls Tryz.prog 39 #[.pointer (some ⟨bk, 0, none⟩)] w fun e w' => e = .returned (.tuple #[]) ∧ w' = w := by
  have k1 := (cell_of_row w bk 3 _ _ _ hbk).trans hj
  clear hbk hj
  go_enter Tryz.func39, Tryz.ntmps39
  go_wp2
  go_loopg [2] 0 (fun g s2 wr => g = 0 ∧ s2 = .int .i64 0 ∧ wr = w)
  case atStart => exact ⟨rfl, rfl, rfl⟩
  case round =>
    obtain ⟨rfl, rfl, rfl⟩ := hrel
    go_wp2
    refine bodyPost_end (v := .tuple #[]) (by kernel_rfl) rfl ?_
    exact ⟨rfl, rfl⟩
theorem growText_none (w : World) (bk : Nat) (cs : Array Value) (hbk : w.heap[bk]? = some (.cells cs 35 (0, 0))) (hj : cs[3]? = some (.slice none 0 0)) :
    Calls Tryz.prog 51 #[.pointer (some ⟨bk, 0, none⟩)] w fun e w' => e = .returned (.tuple #[]) ∧ w' = w := by
  have k1 := (cell_of_row w bk 3 _ _ _ hbk).trans hj
  clear hbk hj
  go_enter Tryz.func51, Tryz.ntmps51
  go_wp2
  go_loopg [2] 0 (fun g s2 wr => g = 0 ∧ s2 = .int .i64 0 ∧ wr = w)
  case atStart => exact ⟨rfl, rfl, rfl⟩
  case round =>
    obtain ⟨rfl, rfl, rfl⟩ := hrel
    go_wp2
    refine bodyPost_end (v := .tuple #[]) (by kernel_rfl) rfl ?_
    exact ⟨rfl, rfl⟩
theorem lookText_none (w : World) (bk : Nat) (cs : Array Value) (hbk : w.heap[bk]? = some (.cells cs 35 (0, 0))) (hj : cs[3]? = some (.slice none 0 0)) :
    Calls Tryz.prog 63 #[.pointer (some ⟨bk, 0, none⟩)] w fun e w' => e = .returned (.bool true) ∧ w' = w := by
  have k1 := (cell_of_row w bk 3 _ _ _ hbk).trans hj
  clear hbk hj
  go_enter Tryz.func63, Tryz.ntmps63
  go_wp2
  go_loopg [3] 0 (fun g s3 wr => g = 0 ∧ s3 = .int .i64 0 ∧ wr = w)
  case atStart => exact ⟨rfl, rfl, rfl⟩
  case round =>
    obtain ⟨rfl, rfl, rfl⟩ := hrel
    go_wp2
    go_ret
    exact ⟨rfl, rfl⟩
theorem fillBlob_none (w : World) (bk : Nat) (cs : Array Value) (hbk : w.heap[bk]? = some (.cells cs 35 (0, 0))) (hj : cs[4]? = some (.slice none 0 0)) :
    Calls Tryz.prog 40 #[.pointer (some ⟨bk, 0, none⟩)] w fun e w' => e = .returned (.tuple #[]) ∧ w' = w := by
  have k1 := (cell_of_row w bk 4 _ _ _ hbk).trans hj
  clear hbk hj
  go_enter Tryz.func40, Tryz.ntmps40
  go_wp2
  go_loopg [2] 0 (fun g s2 wr => g = 0 ∧ s2 = .int .i64 0 ∧ wr = w)
  case atStart => exact ⟨rfl, rfl, rfl⟩
  case round =>
    obtain ⟨rfl, rfl, rfl⟩ := hrel
    go_wp2
    refine bodyPost_end (v := .tuple #[]) (by kernel_rfl) rfl ?_
    exact ⟨rfl, rfl⟩
theorem growBlob_none (w : World) (bk : Nat) (cs : Array Value) (hbk : w.heap[bk]? = some (.cells cs 35 (0, 0))) (hj : cs[4]? = some (.slice none 0 0)) :
    Calls Tryz.prog 52 #[.pointer (some ⟨bk, 0, none⟩)] w fun e w' => e = .returned (.tuple #[]) ∧ w' = w := by
  have k1 := (cell_of_row w bk 4 _ _ _ hbk).trans hj
  clear hbk hj
  go_enter Tryz.func52, Tryz.ntmps52
  go_wp2
  go_loopg [2] 0 (fun g s2 wr => g = 0 ∧ s2 = .int .i64 0 ∧ wr = w)
  case atStart => exact ⟨rfl, rfl, rfl⟩
  case round =>
    obtain ⟨rfl, rfl, rfl⟩ := hrel
    go_wp2
    refine bodyPost_end (v := .tuple #[]) (by kernel_rfl) rfl ?_
    exact ⟨rfl, rfl⟩
theorem lookBlob_none (w : World) (bk : Nat) (cs : Array Value) (hbk : w.heap[bk]? = some (.cells cs 35 (0, 0))) (hj : cs[4]? = some (.slice none 0 0)) :
    Calls Tryz.prog 64 #[.pointer (some ⟨bk, 0, none⟩)] w fun e w' => e = .returned (.bool true) ∧ w' = w := by
  have k1 := (cell_of_row w bk 4 _ _ _ hbk).trans hj
  clear hbk hj
  go_enter Tryz.func64, Tryz.ntmps64
  go_wp2
  go_loopg [3] 0 (fun g s3 wr => g = 0 ∧ s3 = .int .i64 0 ∧ wr = w)
  case atStart => exact ⟨rfl, rfl, rfl⟩
  case round =>
    obtain ⟨rfl, rfl, rfl⟩ := hrel
    go_wp2
    go_ret
    exact ⟨rfl, rfl⟩
theorem fillRow_none (w : World) (bk : Nat) (cs : Array Value) (hbk : w.heap[bk]? = some (.cells cs 35 (0, 0))) (hj : cs[5]? = some (.slice none 0 0)) :
    Calls Tryz.prog 41 #[.pointer (some ⟨bk, 0, none⟩)] w fun e w' => e = .returned (.tuple #[]) ∧ w' = w := by
  have k1 := (cell_of_row w bk 5 _ _ _ hbk).trans hj
  clear hbk hj
  go_enter Tryz.func41, Tryz.ntmps41
  go_wp2
  go_loopg [2] 0 (fun g s2 wr => g = 0 ∧ s2 = .int .i64 0 ∧ wr = w)
  case atStart => exact ⟨rfl, rfl, rfl⟩
  case round =>
    obtain ⟨rfl, rfl, rfl⟩ := hrel
    go_wp2
    refine bodyPost_end (v := .tuple #[]) (by kernel_rfl) rfl ?_
    exact ⟨rfl, rfl⟩
theorem growRow_none (w : World) (bk : Nat) (cs : Array Value) (hbk : w.heap[bk]? = some (.cells cs 35 (0, 0))) (hj : cs[5]? = some (.slice none 0 0)) :
    Calls Tryz.prog 53 #[.pointer (some ⟨bk, 0, none⟩)] w fun e w' => e = .returned (.tuple #[]) ∧ w' = w := by
  have k1 := (cell_of_row w bk 5 _ _ _ hbk).trans hj
  clear hbk hj
  go_enter Tryz.func53, Tryz.ntmps53
  go_wp2
  go_loopg [2] 0 (fun g s2 wr => g = 0 ∧ s2 = .int .i64 0 ∧ wr = w)
  case atStart => exact ⟨rfl, rfl, rfl⟩
  case round =>
    obtain ⟨rfl, rfl, rfl⟩ := hrel
    go_wp2
    refine bodyPost_end (v := .tuple #[]) (by kernel_rfl) rfl ?_
    exact ⟨rfl, rfl⟩
theorem lookRow_none (w : World) (bk : Nat) (cs : Array Value) (hbk : w.heap[bk]? = some (.cells cs 35 (0, 0))) (hj : cs[5]? = some (.slice none 0 0)) :
    Calls Tryz.prog 65 #[.pointer (some ⟨bk, 0, none⟩)] w fun e w' => e = .returned (.bool true) ∧ w' = w := by
  have k1 := (cell_of_row w bk 5 _ _ _ hbk).trans hj
  clear hbk hj
  go_enter Tryz.func65, Tryz.ntmps65
  go_wp2
  go_loopg [3] 0 (fun g s3 wr => g = 0 ∧ s3 = .int .i64 0 ∧ wr = w)
  case atStart => exact ⟨rfl, rfl, rfl⟩
  case round =>
    obtain ⟨rfl, rfl, rfl⟩ := hrel
    go_wp2
    go_ret
    exact ⟨rfl, rfl⟩
theorem fillFlag_none (w : World) (bk : Nat) (cs : Array Value) (hbk : w.heap[bk]? = some (.cells cs 35 (0, 0))) (hj : cs[6]? = some (.slice none 0 0)) :
    Calls Tryz.prog 42 #[.pointer (some ⟨bk, 0, none⟩)] w fun e w' => e = .returned (.tuple #[]) ∧ w' = w := by
  have k1 := (cell_of_row w bk 6 _ _ _ hbk).trans hj
  clear hbk hj
  go_enter Tryz.func42, Tryz.ntmps42
  go_wp2
  go_loopg [2] 0 (fun g s2 wr => g = 0 ∧ s2 = .int .i64 0 ∧ wr = w)
  case atStart => exact ⟨rfl, rfl, rfl⟩
  case round =>
    obtain ⟨rfl, rfl, rfl⟩ := hrel
    go_wp2
    refine bodyPost_end (v := .tuple #[]) (by kernel_rfl) rfl ?_
    exact ⟨rfl, rfl⟩
theorem growFlag_none (w : World) (bk : Nat) (cs : Array Value) (hbk : w.heap[bk]? = some (.cells cs 35 (0, 0))) (hj : cs[6]? = some (.slice none 0 0)) :
    Calls Tryz.prog 54 #[.pointer (some ⟨bk, 0, none⟩)] w fun e w' => e = .returned (.tuple #[]) ∧ w' = w := by
  have k1 := (cell_of_row w bk 6 _ _ _ hbk).trans hj
  clear hbk hj
  go_enter Tryz.func54, Tryz.ntmps54
  go_wp2
  go_loopg [2] 0 (fun g s2 wr => g = 0 ∧ s2 = .int .i64 0 ∧ wr = w)
  case atStart => exact ⟨rfl, rfl, rfl⟩
  case round =>
    obtain ⟨rfl, rfl, rfl⟩ := hrel
    go_wp2
    refine bodyPost_end (v := .tuple #[]) (by kernel_rfl) rfl ?_
    exact ⟨rfl, rfl⟩
theorem lookFlag_none (w : World) (bk : Nat) (cs : Array Value) (hbk : w.heap[bk]? = some (.cells cs 35 (0, 0))) (hj : cs[6]? = some (.slice none 0 0)) :
    Calls Tryz.prog 66 #[.pointer (some ⟨bk, 0, none⟩)] w fun e w' => e = .returned (.bool true) ∧ w' = w := by
  have k1 := (cell_of_row w bk 6 _ _ _ hbk).trans hj
  clear hbk hj
  go_enter Tryz.func66, Tryz.ntmps66
  go_wp2
  go_loopg [3] 0 (fun g s3 wr => g = 0 ∧ s3 = .int .i64 0 ∧ wr = w)
  case atStart => exact ⟨rfl, rfl, rfl⟩
  case round =>
    obtain ⟨rfl, rfl, rfl⟩ := hrel
    go_wp2
    go_ret
    exact ⟨rfl, rfl⟩
theorem fillRange_none (w : World) (bk : Nat) (cs : Array Value) (hbk : w.heap[bk]? = some (.cells cs 35 (0, 0))) (hj : cs[7]? = some (.slice none 0 0)) :
    Calls Tryz.prog 43 #[.pointer (some ⟨bk, 0, none⟩)] w fun e w' => e = .returned (.tuple #[]) ∧ w' = w := by
  have k1 := (cell_of_row w bk 7 _ _ _ hbk).trans hj
  clear hbk hj
  go_enter Tryz.func43, Tryz.ntmps43
  go_wp2
  go_loopg [2] 0 (fun g s2 wr => g = 0 ∧ s2 = .int .i64 0 ∧ wr = w)
  case atStart => exact ⟨rfl, rfl, rfl⟩
  case round =>
    obtain ⟨rfl, rfl, rfl⟩ := hrel
    go_wp2
    refine bodyPost_end (v := .tuple #[]) (by kernel_rfl) rfl ?_
    exact ⟨rfl, rfl⟩
theorem growRange_none (w : World) (bk : Nat) (cs : Array Value) (hbk : w.heap[bk]? = some (.cells cs 35 (0, 0))) (hj : cs[7]? = some (.slice none 0 0)) :
    Calls Tryz.prog 55 #[.pointer (some ⟨bk, 0, none⟩)] w fun e w' => e = .returned (.tuple #[]) ∧ w' = w := by
  have k1 := (cell_of_row w bk 7 _ _ _ hbk).trans hj
  clear hbk hj
  go_enter Tryz.func55, Tryz.ntmps55
  go_wp2
  go_loopg [2] 0 (fun g s2 wr => g = 0 ∧ s2 = .int .i64 0 ∧ wr = w)
  case atStart => exact ⟨rfl, rfl, rfl⟩
  case round =>
    obtain ⟨rfl, rfl, rfl⟩ := hrel
    go_wp2
    refine bodyPost_end (v := .tuple #[]) (by kernel_rfl) rfl ?_
    exact ⟨rfl, rfl⟩
theorem lookRange_none (w : World) (bk : Nat) (cs : Array Value) (hbk : w.heap[bk]? = some (.cells cs 35 (0, 0))) (hj : cs[7]? = some (.slice none 0 0)) :
    Calls Tryz.prog 67 #[.pointer (some ⟨bk, 0, none⟩)] w fun e w' => e = .returned (.bool true) ∧ w' = w := by
  have k1 := (cell_of_row w bk 7 _ _ _ hbk).trans hj
  clear hbk hj
  go_enter Tryz.func67, Tryz.ntmps67
  go_wp2
  go_loopg [3] 0 (fun g s3 wr => g = 0 ∧ s3 = .int .i64 0 ∧ wr = w)
  case atStart => exact ⟨rfl, rfl, rfl⟩
  case round =>
    obtain ⟨rfl, rfl, rfl⟩ := hrel
    go_wp2
    go_ret
    exact ⟨rfl, rfl⟩
theorem fillChange_none (w : World) (bk : Nat) (cs : Array Value) (hbk : w.heap[bk]? = some (.cells cs 35 (0, 0))) (hj : cs[8]? = some (.slice none 0 0)) :
    Calls Tryz.prog 44 #[.pointer (some ⟨bk, 0, none⟩)] w fun e w' => e = .returned (.tuple #[]) ∧ w' = w := by
  have k1 := (cell_of_row w bk 8 _ _ _ hbk).trans hj
  clear hbk hj
  go_enter Tryz.func44, Tryz.ntmps44
  go_wp2
  go_loopg [2] 0 (fun g s2 wr => g = 0 ∧ s2 = .int .i64 0 ∧ wr = w)
  case atStart => exact ⟨rfl, rfl, rfl⟩
  case round =>
    obtain ⟨rfl, rfl, rfl⟩ := hrel
    go_wp2
    refine bodyPost_end (v := .tuple #[]) (by kernel_rfl) rfl ?_
    exact ⟨rfl, rfl⟩
theorem growChange_none (w : World) (bk : Nat) (cs : Array Value) (hbk : w.heap[bk]? = some (.cells cs 35 (0, 0))) (hj : cs[8]? = some (.slice none 0 0)) :
    Calls Tryz.prog 56 #[.pointer (some ⟨bk, 0, none⟩)] w fun e w' => e = .returned (.tuple #[]) ∧ w' = w := by
  have k1 := (cell_of_row w bk 8 _ _ _ hbk).trans hj
  clear hbk hj
  go_enter Tryz.func56, Tryz.ntmps56
  go_wp2
  go_loopg [2] 0 (fun g s2 wr => g = 0 ∧ s2 = .int .i64 0 ∧ wr = w)
  case atStart => exact ⟨rfl, rfl, rfl⟩
  case round =>
    obtain ⟨rfl, rfl, rfl⟩ := hrel
    go_wp2
    refine bodyPost_end (v := .tuple #[]) (by kernel_rfl) rfl ?_
    exact ⟨rfl, rfl⟩
theorem lookChange_none (w : World) (bk : Nat) (cs : Array Value) (hbk : w.heap[bk]? = some (.cells cs 35 (0, 0))) (hj : cs[8]? = some (.slice none 0 0)) :
    Calls Tryz.prog 68 #[.pointer (some ⟨bk, 0, none⟩)] w fun e w' => e = .returned (.bool true) ∧ w' = w := by
  have k1 := (cell_of_row w bk 8 _ _ _ hbk).trans hj
  clear hbk hj
  go_enter Tryz.func68, Tryz.ntmps68
  go_wp2
  go_loopg [3] 0 (fun g s3 wr => g = 0 ∧ s3 = .int .i64 0 ∧ wr = w)
  case atStart => exact ⟨rfl, rfl, rfl⟩
  case round =>
    obtain ⟨rfl, rfl, rfl⟩ := hrel
    go_wp2
    go_ret
    exact ⟨rfl, rfl⟩
theorem fillCall_none (w : World) (bk : Nat) (cs : Array Value) (hbk : w.heap[bk]? = some (.cells cs 35 (0, 0))) (hj : cs[11]? = some (.slice none 0 0)) :
    Calls Tryz.prog 47 #[.pointer (some ⟨bk, 0, none⟩)] w fun e w' => e = .returned (.tuple #[]) ∧ w' = w := by
  have k1 := (cell_of_row w bk 11 _ _ _ hbk).trans hj
  clear hbk hj
  go_enter Tryz.func47, Tryz.ntmps47
  go_wp2
  go_loopg [2] 0 (fun g s2 wr => g = 0 ∧ s2 = .int .i64 0 ∧ wr = w)
  case atStart => exact ⟨rfl, rfl, rfl⟩
  case round =>
    obtain ⟨rfl, rfl, rfl⟩ := hrel
    go_wp2
    refine bodyPost_end (v := .tuple #[]) (by kernel_rfl) rfl ?_
    exact ⟨rfl, rfl⟩
theorem growCall_none (w : World) (bk : Nat) (cs : Array Value) (hbk : w.heap[bk]? = some (.cells cs 35 (0, 0))) (hj : cs[11]? = some (.slice none 0 0)) :
    Calls Tryz.prog 59 #[.pointer (some ⟨bk, 0, none⟩)] w fun e w' => e = .returned (.tuple #[]) ∧ w' = w := by
  have k1 := (cell_of_row w bk 11 _ _ _ hbk).trans hj
  clear hbk hj
  go_enter Tryz.func59, Tryz.ntmps59
  go_wp2
  go_loopg [2] 0 (fun g s2 wr => g = 0 ∧ s2 = .int .i64 0 ∧ wr = w)
  case atStart => exact ⟨rfl, rfl, rfl⟩
  case round =>
    obtain ⟨rfl, rfl, rfl⟩ := hrel
    go_wp2
    refine bodyPost_end (v := .tuple #[]) (by kernel_rfl) rfl ?_
    exact ⟨rfl, rfl⟩
theorem lookCall_none (w : World) (bk : Nat) (cs : Array Value) (hbk : w.heap[bk]? = some (.cells cs 35 (0, 0))) (hj : cs[11]? = some (.slice none 0 0)) :
    Calls Tryz.prog 71 #[.pointer (some ⟨bk, 0, none⟩)] w fun e w' => e = .returned (.bool true) ∧ w' = w := by
  have k1 := (cell_of_row w bk 11 _ _ _ hbk).trans hj
  clear hbk hj
  go_enter Tryz.func71, Tryz.ntmps71
  go_wp2
  go_loopg [3] 0 (fun g s3 wr => g = 0 ∧ s3 = .int .i64 0 ∧ wr = w)
  case atStart => exact ⟨rfl, rfl, rfl⟩
  case round =>
    obtain ⟨rfl, rfl, rfl⟩ := hrel
    go_wp2
    go_ret
    exact ⟨rfl, rfl⟩
theorem fillStep_none (w : World) (bk : Nat) (cs : Array Value) (hbk : w.heap[bk]? = some (.cells cs 35 (0, 0))) (hj : cs[12]? = some (.slice none 0 0)) :
    Calls Tryz.prog 48 #[.pointer (some ⟨bk, 0, none⟩)] w fun e w' => e = .returned (.tuple #[]) ∧ w' = w := by
  have k1 := (cell_of_row w bk 12 _ _ _ hbk).trans hj
  clear hbk hj
  go_enter Tryz.func48, Tryz.ntmps48
  go_wp2
  go_loopg [2] 0 (fun g s2 wr => g = 0 ∧ s2 = .int .i64 0 ∧ wr = w)
  case atStart => exact ⟨rfl, rfl, rfl⟩
  case round =>
    obtain ⟨rfl, rfl, rfl⟩ := hrel
    go_wp2
    refine bodyPost_end (v := .tuple #[]) (by kernel_rfl) rfl ?_
    exact ⟨rfl, rfl⟩
theorem growStep_none (w : World) (bk : Nat) (cs : Array Value) (hbk : w.heap[bk]? = some (.cells cs 35 (0, 0))) (hj : cs[12]? = some (.slice none 0 0)) :
    Calls Tryz.prog 60 #[.pointer (some ⟨bk, 0, none⟩)] w fun e w' => e = .returned (.tuple #[]) ∧ w' = w := by
  have k1 := (cell_of_row w bk 12 _ _ _ hbk).trans hj
  clear hbk hj
  go_enter Tryz.func60, Tryz.ntmps60
  go_wp2
  go_loopg [2] 0 (fun g s2 wr => g = 0 ∧ s2 = .int .i64 0 ∧ wr = w)
  case atStart => exact ⟨rfl, rfl, rfl⟩
  case round =>
    obtain ⟨rfl, rfl, rfl⟩ := hrel
    go_wp2
    refine bodyPost_end (v := .tuple #[]) (by kernel_rfl) rfl ?_
    exact ⟨rfl, rfl⟩
theorem lookStep_none (w : World) (bk : Nat) (cs : Array Value) (hbk : w.heap[bk]? = some (.cells cs 35 (0, 0))) (hj : cs[12]? = some (.slice none 0 0)) :
    Calls Tryz.prog 72 #[.pointer (some ⟨bk, 0, none⟩)] w fun e w' => e = .returned (.bool true) ∧ w' = w := by
  have k1 := (cell_of_row w bk 12 _ _ _ hbk).trans hj
  clear hbk hj
  go_enter Tryz.func72, Tryz.ntmps72
  go_wp2
  go_loopg [3] 0 (fun g s3 wr => g = 0 ∧ s3 = .int .i64 0 ∧ wr = w)
  case atStart => exact ⟨rfl, rfl, rfl⟩
  case round =>
    obtain ⟨rfl, rfl, rfl⟩ := hrel
    go_wp2
    go_ret
    exact ⟨rfl, rfl⟩
end Go.Proofs.YtdceechakocgfaaGreatDoor
