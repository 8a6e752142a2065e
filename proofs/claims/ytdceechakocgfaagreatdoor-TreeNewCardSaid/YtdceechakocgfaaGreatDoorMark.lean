/- The Book's marks, and whether something is one. -/
import Derived.Test.YtdceechakocgfaaGreatDoorShelf
import Derived.Test.YtdceechakocgfaaGreatDoorKeep
import Derived.Test.YtdceechakocgfaaGreatDoorM2
import Derived.Lib.ItoaNum
namespace Go.Proofs.YtdceechakocgfaaGreatDoor
open Go.RowKit
attribute [local go_sem] Later.cell_eq
def mkB (n : Int) : List Value := [.int .u8 (1 + n % 250)]
def wordS (n : Int) : ByteArray := (⟨#[35]⟩ ++ ⟨(Lib.decDigits n.toNat).toArray⟩ : ByteArray)
def mkE (n : Int) : List Value := [.string (wordS n), .int .i64 0]
def mkN (n : Int) : List Value := [.int .u8 0, .int .i64 (-1000 - n), .int .i64 0, .int .i64 0, .int .i64 0, .int .i64 0, .slice none 0 0, .string ⟨#[]⟩, .slice none 0 0, .int .i64 0]
theorem dec_short (n : Nat) (hn : n < 100) : (Lib.decDigits n).length ≤ 100 := by
  rw [Lib.decDigits_length]
  by_cases h : n < 10
  · rw [Lib.nDigits_small h]; decide
  · rw [Lib.nDigits_big h, Lib.nDigits_small (by omega)]; decide
theorem markByte_calls (n : Int) (hn : 0 ≤ n ∧ n ≤ 1000000) (w : World) :
    Calls Tryz.prog 104 #[.int .i64 n] w fun e w' => e = .returned (.int .u8 (1 + n % 250)) ∧ Below w.heap.size w w' := by
  go_enter Tryz.func104, Tryz.ntmps104
  go_wp2
  go_ret
  exact ⟨rfl, (by repeat (first | exact Below.refl _ _ | assumption | refine Below.drew ?_ | refine below_drewN ?_ _ | refine below_alloc ?_ _ | refine below_set ?_ (by simp) _ | refine below_step ?_ (by assumption)))⟩
theorem word_calls (n : Int) (hn : 0 ≤ n ∧ n < 100) (w : World) :
    Calls Tryz.prog 158 #[.int .i64 n] w fun e w' => e = .returned (.string (wordS n)) ∧ Below w.heap.size w w' := by
  obtain ⟨m, rfl⟩ : ∃ m : Nat, n = m := ⟨n.toNat, by omega⟩
  go_enter Tryz.func158, Tryz.ntmps158
  have hd := dec_short m (by omega)
  have hs : ¬ 9223372036854775807 < 1 + (Lib.decDigits m).length := by omega
  go_wp2_with (go_at_call 182; refine (Tryz.strconv_Itoa_small m (by omega) _).mono ?_; rintro e w' ⟨rfl, rfl⟩)
  go_ret
  exact ⟨rfl, Below.refl _ _⟩
theorem markEntry_calls (n : Int) (hn : 0 ≤ n ∧ n < 100) (w : World) :
    Calls Tryz.prog 112 #[.int .i64 n] w fun e w' => e = .returned (.agg (mkE n).toArray) ∧ Below w.heap.size w w' := by
  go_enter Tryz.func112, Tryz.ntmps112
  go_wp2_with (first
    | (go_at_call 158; refine (word_calls n hn _).mono ?_; rintro e w' ⟨rfl, hb1⟩
       have h8 : w'.heap[w.heap.size]? = some (.cells #[.string ⟨#[]⟩, .int .i64 0] 122 (0, 0)) := (hb1.block _ (by simp)).trans (heap_alloc_new w _))
    | (refine wpList_store_rowTo rfl 122 _ _ rfl rfl w.heap.size (mkE n).toArray rfl rfl 122 _ h8 (by kernel_rfl) rfl (by simp [mkE, Value.oneCell']) ?_))
  try rw [Exit.noGoto_ret]
  have h9 := setRow_heap _ w.heap.size _ (mkE n).toArray _ _ h8
  have hL := run_loadVar_row (P := Tryz.prog) _ _ _ 122 _ _ _ h9 Tryz.underlying122 rfl (by kernel_rfl)
  refine bodyPost_ret (v := .agg (mkE n).toArray) (results_cell rfl rfl hL) rfl ?_
  exact ⟨rfl, below_setRow (below_step (below_alloc (Below.refl _ _) _) hb1) (Nat.le_refl _) _⟩
theorem markNode_calls (n : Int) (hn : 0 ≤ n ∧ n ≤ 1000000) (w : World) :
    Calls Tryz.prog 113 #[.int .i64 n] w fun e w' => e = .returned (.agg (mkN n).toArray) ∧ Below w.heap.size w w' := by
  have hw : IntKind.i64.wrap (-1000 - n) = -1000 - n := IntWalk.i64_in _ (by omega)
  go_enter Tryz.func113, Tryz.ntmps113
  have h8 := heap_alloc_new w (.cells #[.int .u8 0, .int .i64 0, .int .i64 0, .int .i64 0, .int .i64 0, .int .i64 0, .slice none 0 0, .string ⟨#[]⟩, .slice none 0 0, .int .i64 0] 74)
  go_wp2_with (refine wpList_store_rowTo rfl 74 _ _ rfl rfl w.heap.size (mkN n).toArray rfl rfl 74 _ h8 (by kernel_rfl) rfl (by simp [mkN, Value.oneCell']) ?_)
  try rw [Exit.noGoto_ret]
  have h9 := setRow_heap _ w.heap.size _ (mkN n).toArray _ _ h8
  have hL := run_loadVar_row (P := Tryz.prog) _ _ _ 74 _ _ _ h9 Tryz.underlying74 rfl (by kernel_rfl)
  refine bodyPost_ret (v := .agg (mkN n).toArray) (results_cell rfl rfl hL) rfl ?_
  exact ⟨rfl, below_setRow (below_alloc (Below.refl _ _) _) (Nat.le_refl _) _⟩
theorem isByte_calls (n : Int) (hn : 0 ≤ n ∧ n ≤ 1000000) (w : World) :
    Calls Tryz.prog 116 #[.int .u8 (1 + n % 250), .int .i64 n] w fun e w' => e = .returned (.bool true) ∧ Below w.heap.size w w' := by
  go_enter Tryz.func116, Tryz.ntmps116
  go_wp2
  go_ret
  exact ⟨rfl, (by repeat (first | exact Below.refl _ _ | assumption | refine Below.drew ?_ | refine below_drewN ?_ _ | refine below_alloc ?_ _ | refine below_set ?_ (by simp) _ | refine below_step ?_ (by assumption)))⟩
theorem isEntry_calls (n : Int) (hn : 0 ≤ n ∧ n < 100) (w : World) :
    Calls Tryz.prog 124 #[.agg #[.string (wordS n), .int .i64 0], .int .i64 n] w fun e w' => e = .returned (.bool true) ∧ Below w.heap.size w w' := by
  go_enter Tryz.func124, Tryz.ntmps124
  go_upto_region 1 with fail
  obtain ⟨wb, hwb⟩ : ∃ x, x = w.alloc (.cells #[.string (wordS n), .int .i64 0] 122) := ⟨_, rfl⟩
  have c0 : wb.cell? ⟨w.heap.size, 0, none⟩ = some (.string (wordS n)) := by rw [hwb, cell_of_row _ _ _ _ _ _ (heap_alloc_new w _)]; rfl
  have hl : w.heap.size < wb.heap.size := by rw [hwb]; simp
  have hB : Below w.heap.size w wb := by rw [hwb]; exact below_alloc (Below.refl _ _) _
  rw [← hwb]
  clear hwb
  refine wp_region_later (by kernel_rfl) (by kernel_rfl) ?_
  repeat (go_big_quiet_step ((exact Calls.later (word_calls n hn _))))
  refine wpQuiet_nil ?_
  intro wL hbL
  go_wp2
  go_ret
  exact ⟨rfl, below_step hB hbL⟩
theorem isNode_calls (n : Int) (hn : 0 ≤ n ∧ n ≤ 1000000) (w : World) :
    Calls Tryz.prog 125 #[.agg #[.int .u8 0, .int .i64 (-1000 - n), .int .i64 0, .int .i64 0, .int .i64 0, .int .i64 0, .slice none 0 0, .string ⟨#[]⟩, .slice none 0 0, .int .i64 0], .int .i64 n] w fun e w' => e = .returned (.bool true) ∧ Below w.heap.size w w' := by
  have hw : IntKind.i64.wrap (-1000 - n) = -1000 - n := IntWalk.i64_in _ (by omega)
  go_enter Tryz.func125, Tryz.ntmps125
  go_wp2
  go_ret
  exact ⟨rfl, (by repeat (first | exact Below.refl _ _ | assumption | refine Below.drew ?_ | refine below_drewN ?_ _ | refine below_alloc ?_ _ | refine below_set ?_ (by simp) _ | refine below_step ?_ (by assumption)))⟩
end Go.Proofs.YtdceechakocgfaaGreatDoor
