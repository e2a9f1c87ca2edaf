/-
  The walk of the law FnExactExecute.
-/
import Derived.Test.YtboobimpoddacaaGreatDoorPackC
namespace Go.Proofs.YtboobimpoddacaaGreatDoor.lawFnExactExecute
open Go.RowKit
set_option linter.unusedVariables false

theorem walk (t : ByteArray) (w : World) (hE : Env w) (h0 : t.size ≤ maxLen) :
    Calls Tryz.prog 6 #[.string t] w fun e w' => e = .returned (.bool true) ∧ Below w.heap.size w w' := by
  unfold maxLen at h0
  by_cases h : 1048576 < t.size
  · have h' : (1048576 : Int) < (t.size : Int) := by omega
    go_enter Tryz.func6, Tryz.ntmps6
    go_wp2
    go_ret
    exact ⟨rfl, Below.refl _ _⟩
  have h' : ¬ (1048576 : Int) < (t.size : Int) := by omega
  have c1 := Lib.hid (fun x => c_spec_Execute t x (by omega))
  have c2 := Lib.hid (fun x hx => c_impl_Execute t x (by omega) hx)
  obtain ⟨X, hX⟩ : ∃ X, exec t = X := ⟨_, rfl⟩
  rw [hX] at c1 c2
  clear hX
  go_enter Tryz.func6, Tryz.ntmps6
  go_wp2_with fail
  refine (c1.out _).mono ?_
  rintro e w1 ⟨rfl, hg1⟩
  go_wp2_with fail
  refine (c2.out _ (hE.grown hg1)).mono ?_
  rintro e w2 ⟨rfl, hg2⟩
  go_wp2
  go_ret
  exact ⟨ret_bool (by simp), gb_below (gb_trans hg1 hg2)⟩
end Go.Proofs.YtboobimpoddacaaGreatDoor.lawFnExactExecute
