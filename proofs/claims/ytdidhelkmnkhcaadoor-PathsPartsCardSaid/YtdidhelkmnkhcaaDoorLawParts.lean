/- The law of PathsParts: it answers true. -/
import Derived.Test.YtdidhelkmnkhcaaDoorLives14
import Derived.Test.YtdidhelkmnkhcaaDoorRef14A
namespace Go.Proofs.YtdidhelkmnkhcaaDoor
open Go.RowKit
attribute [local go_sem] Later.cell_eq
set_option maxHeartbeats 4000000 in
set_option maxRecDepth 100000 in
theorem lawParts_calls (p : ByteArray) (hp : p.size ≤ 140737488355328) (n : ByteArray) (hn : n.size ≤ 140737488355328) (w : World) :
    Calls Tryd.prog 5 #[.string p, .string n] w fun e w' => e = .returned (.bool true) ∧ Below w.heap.size w w' := by
  by_cases hg : p.size + n.size ≤ 50000
  · have g1 : decide ((50000 : Int) < (p.size : Int) + (n.size : Int)) = false := decide_eq_false (by omega)
    have hp2 : p.size ≤ 1000000 := by omega
    have hn2 : n.size ≤ 1000000 := by omega
    go_enter Tryd.func5, Tryd.ntmps5
    go_wp2_with (first
      | (go_at_call 15; refine (lives14_calls _).mono ?_; rintro _ w7 ⟨rfl, hb7⟩; have HB7 := Lib.hid (below_step HB1.out hb7); clear hb7)
      | (go_at_call 21; refine (refJoin_calls p n hp2 hn2 _).mono ?_; rintro _ w6 ⟨r6, ⟨rfl, hr6⟩, hw6⟩; obtain rfl := hw6.symm; obtain rfl : r6 = r5 := str_ext (hr6.trans HR5.out.symm); clear hr6)
      | (go_at_call 20; refine (pjoin_calls p n hp2 hn2 _).mono ?_; rintro _ w5 ⟨r5, ⟨rfl, hr5⟩, hw5⟩; obtain rfl := hw5.symm; have HR5 := Lib.hid hr5; clear hr5)
      | (go_at_call 19; refine (refDir_calls p hp2 _).mono ?_; rintro _ w4 ⟨r4, ⟨rfl, hr4⟩, hw4⟩; obtain rfl := hw4.symm; obtain rfl : r4 = r3 := str_ext (hr4.trans HR3.out.symm); clear hr4)
      | (go_at_call 18; refine (pdir_calls p hp2 _).mono ?_; rintro _ w3 ⟨r3, ⟨rfl, hr3⟩, hw3⟩; obtain rfl := hw3.symm; have HR3 := Lib.hid hr3; clear hr3)
      | (go_at_call 17; refine (refBase_calls p hp2 _).mono ?_; rintro _ w2 ⟨r2, ⟨rfl, hr2⟩, hw2⟩; obtain rfl := hw2.symm; obtain rfl : r2 = r1 := str_ext (hr2.trans HR1.out.symm); clear hr2)
      | (go_at_call 16; refine (base_calls p hp2 _).mono ?_; rintro _ w1 ⟨r1, ⟨rfl, hr1⟩, hb1⟩; have HR1 := Lib.hid hr1; have HB1 := Lib.hid hb1; clear hr1 hb1))
    go_ret
    exact ⟨rfl, HB7.out⟩
  · have g1 : decide ((50000 : Int) < (p.size : Int) + (n.size : Int)) = true := decide_eq_true (by omega)
    go_enter Tryd.func5, Tryd.ntmps5
    go_wp2_with (go_at_call 15; refine (lives14_calls _).mono ?_; rintro _ w7 ⟨rfl, hb7⟩; have HB7 := Lib.hid hb7; clear hb7)
    go_ret
    exact ⟨rfl, HB7.out⟩
end Go.Proofs.YtdidhelkmnkhcaaDoor
