/-
  The walk of the law FnExactTreeCheck: the program's TreeCheck and the reference's agree, and the proof handed in is left alone.
-/
import Derived.Test.YtocdgmmmegcnoaaCheck
import Derived.Test.YtocdgmmmegcnoaaTo
namespace Go.Proofs.Ytocdgmmmegcnoaa.lawFnExactTreeCheck
open Go.RowKit
set_option linter.unusedVariables false

set_option maxHeartbeats 1000000 in
theorem walk (a0 a1 a2 : Int) (a3 : ByteArray) (a4 : Option Addr) (len4 cap4 : Nat) (z4 : List Int) (w : World) (w0 : (Lit.int .i64 a0).wf = true) (w1 : (Lit.int .i64 a1).wf = true) (w2 : (Lit.int .i64 a2).wf = true)
    (w3 : a3.size ≤ maxLen) (w4 : len4 ≤ cap4 ∧ cap4 ≤ maxLen ∧ (∀ n ∈ z4, (Lit.int .i64 n).wf = true) ∧ Rd w 0 1 a4 len4 (z4.map (Value.int .i64))) :
    Calls Try.prog 7 #[.int .i64 a0, .int .i64 a1, .int .i64 a2, .string a3, .slice a4 len4 cap4] w fun e w' => e = .returned (.bool true) ∧ Below w.heap.size w w' := by
  have hI : Ints w 0 a4 len4 cap4 z4 := ⟨w4.1, w4.2.1, w4.2.2.2⟩
  clear w0 w1 w2 w4
  by_cases h0 : 1048576 < a3.size
  · go_enter Try.func7, Try.ntmps7
    go_wp2
    go_ret
    exact ⟨rfl, Below.refl _ _⟩
  by_cases h1 : 1048576 < len4
  · go_enter Try.func7, Try.ntmps7
    go_wp2
    go_ret
    exact ⟨rfl, Below.refl _ _⟩
  go_enter Try.func7, Try.ntmps7
  go_wp2_with fail
  refine (c_toIntS 0 _ _ _ z4 _ hI (by omega)).mono ?_
  rintro e w1 ⟨rfl, hg1, ho1⟩
  go_wp2_with fail
  refine (c_spec_TreeCheck _ _ _ _ _ _ _ _ z4 _ (by omega) (by omega) (Sl.own ho1)).mono ?_
  rintro e w2 ⟨rfl, hg2⟩
  have hG2 := gb_trans hg1 hg2
  go_wp2_with fail
  refine (c_toIntS 0 _ _ _ z4 _ (Sl.keep0 hI hG2) (by omega)).mono ?_
  rintro e w3 ⟨rfl, hg3, ho3⟩
  have hG3 := gb_trans hG2 hg3
  go_wp2_with fail
  refine (c_impl_TreeCheck _ _ _ _ _ _ _ _ z4 _ (by omega) (by omega) (Sl.own ho3)).mono ?_
  rintro e w4 ⟨rfl, hg4⟩
  have hG4 := gb_trans hG3 hg4
  go_wp2_with fail
  refine (c_toIntS 0 _ _ _ z4 _ (Sl.keep0 hI hG4) (by omega)).mono ?_
  rintro e w5 ⟨rfl, hg5, ho5⟩
  have hG5 := gb_trans hG4 hg5
  go_wp2_with fail
  refine (c_eqIntS _ _ _ _ _ _ _ _ z4 z4 _ (Sl.keep0 (Sl.own ho3) (gb_trans hg4 hg5)) (Sl.own ho5)).mono ?_
  rintro e w6 ⟨rfl, d, rfl⟩
  have hd : decide (z4 = z4) = true := by simp
  go_wp2
  go_ret
  exact ⟨rfl, gb_below (gb_drewN hG5 d)⟩
end Go.Proofs.Ytocdgmmmegcnoaa.lawFnExactTreeCheck
