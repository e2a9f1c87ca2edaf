/-
  The walk of the law FnExactNodeSum: the program's NodeSum and the reference's agree.
-/
import Derived.Test.YtocdgmmmegcnoaaBase
namespace Go.Proofs.Ytocdgmmmegcnoaa.lawFnExactNodeSum
open Go.RowKit

theorem walk (a0 a1 : Int) (w : World) (_w0 : (Lit.int .i64 a0).wf = true) (_w1 : (Lit.int .i64 a1).wf = true) :
    Calls Try.prog 3 #[.int .i64 a0, .int .i64 a1] w fun e w' => e = .returned (.bool true) ∧ Below w.heap.size w w' := by
  go_enter Try.func3, Try.ntmps3
  go_wp2_with (first | (go_at_call 16; refine (c_spec_NodeSum _ _ _).mono ?_; rintro e w' ⟨rfl, rfl⟩) | (go_at_call 17; refine (c_impl_NodeSum _ _ _).mono ?_; rintro e w' ⟨rfl, rfl⟩))
  go_ret
  exact ⟨rfl, Below.refl _ _⟩
end Go.Proofs.Ytocdgmmmegcnoaa.lawFnExactNodeSum
