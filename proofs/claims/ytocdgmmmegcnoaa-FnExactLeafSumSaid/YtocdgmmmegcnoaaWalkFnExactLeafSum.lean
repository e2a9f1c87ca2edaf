/-
  The walk of the law FnExactLeafSum: the program's LeafSum and the reference's agree.
-/
import Derived.Test.YtocdgmmmegcnoaaLeaf
namespace Go.Proofs.Ytocdgmmmegcnoaa.lawFnExactLeafSum
open Go.RowKit
set_option linter.unusedVariables false

theorem walk (a0 : Int) (a1 : ByteArray) (w : World) (w0 : (Lit.int .i64 a0).wf = true) (w1 : a1.size ≤ maxLen) :
    Calls Try.prog 5 #[.int .i64 a0, .string a1] w fun e w' => e = .returned (.bool true) ∧ Below w.heap.size w w' := by
  by_cases h0 : 1048576 < a1.size
  · go_enter Try.func5, Try.ntmps5
    go_wp2
    go_ret
    exact ⟨rfl, Below.refl _ _⟩
  go_enter Try.func5, Try.ntmps5
  go_wp2_with fail
  refine (c_spec_LeafSum _ _ _ (by omega)).mono ?_
  rintro e w1 ⟨rfl, hg1⟩
  go_wp2_with fail
  refine (c_impl_LeafSum _ _ _ (by omega)).mono ?_
  rintro e w2 ⟨rfl, hg2⟩
  go_wp2
  go_ret
  exact ⟨rfl, gb_below (gb_trans hg1 hg2)⟩
end Go.Proofs.Ytocdgmmmegcnoaa.lawFnExactLeafSum
