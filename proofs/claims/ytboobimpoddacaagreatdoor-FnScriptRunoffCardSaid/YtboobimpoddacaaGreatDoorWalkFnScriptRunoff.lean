/-
  The walk of the law FnScriptRunoff.
-/
import Derived.Test.YtboobimpoddacaaGreatDoorScrEv
import Derived.Test.YtboobimpoddacaaGreatDoorPackC
import Derived.Test.YtboobimpoddacaaGreatDoorDrawScr
namespace Go.Proofs.YtboobimpoddacaaGreatDoor.lawFnScriptRunoff
open Go.RowKit
set_option linter.unusedVariables false

set_option maxHeartbeats 1000000 in
set_option maxRecDepth 100000 in
theorem walk (a0 : Option Addr) (len0 cap0 : Nat) (w : World) (hE : Env w) (c0 : CodeArg w a0 len0 cap0) :
    Calls Tryz.prog 11 #[.slice a0 len0 cap0] w fun e w' => e = .returned (.bool true) ∧ Below w.heap.size w w' := by
  by_cases h0 : 1048576 < len0
  · go_enter Tryz.func11, Tryz.ntmps11
    go_wp2
    go_ret
    exact ⟨rfl, Below.refl _ _⟩
  go_enter Tryz.func11, Tryz.ntmps11
  go_wp2_with fail
  refine (c_DrawExecute _ _ _ _ c0).mono ?_
  rintro e w1 ⟨t, ht, rfl, hg1⟩
  have HE1 := Lib.hid (hE.grown hg1)
  have k1 := Lib.hid (fun x hx => c_impl_Execute t x (by omega) hx)
  have k2 := Lib.hid (fun x => c_spec_Execute t x (by omega))
  obtain ⟨X, hX⟩ : ∃ X, exec t = X := ⟨_, rfl⟩
  rw [hX] at k1 k2
  clear hX c0
  go_wp2_with fail
  refine (k1.out _ HE1.out).mono ?_
  rintro e w2 ⟨rfl, hg2⟩
  have HE2 := Lib.hid (HE1.out.grown hg2)
  have hG2 := gb_trans hg1 hg2
  go_wp2_with fail
  refine (k2.out _).mono ?_
  rintro e w3 ⟨rfl, hg3⟩
  have HE3 := Lib.hid (HE2.out.grown hg3)
  have hG3 := gb_trans hG2 hg3
  clear k1 k2 hg1 hg2 hg3 hG2
  go_wp2_with fail
  refine (c_ScriptRunoff _ HE3.out).mono ?_
  rintro e w4 ⟨rfl, hg4⟩
  go_wp2
  go_ret
  exact ⟨ret_bool (by first | rfl | decide | simp), gb_below (gb_trans hG3 hg4)⟩
end Go.Proofs.YtboobimpoddacaaGreatDoor.lawFnScriptRunoff
