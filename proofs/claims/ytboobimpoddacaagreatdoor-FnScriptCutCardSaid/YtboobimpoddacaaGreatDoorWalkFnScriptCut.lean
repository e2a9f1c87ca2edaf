/-
  The walk of the law FnScriptCut.
-/
import Derived.Test.YtboobimpoddacaaGreatDoorPackC
import Derived.Test.YtboobimpoddacaaGreatDoorScrLast
import Derived.Test.YtboobimpoddacaaGreatDoorDrawScr
namespace Go.Proofs.YtboobimpoddacaaGreatDoor.lawFnScriptCut
open Go.RowKit
set_option linter.unusedVariables false

set_option maxHeartbeats 1000000 in
set_option maxRecDepth 100000 in
theorem walk (a0 : Option Addr) (len0 cap0 : Nat) (w : World) (hE : Env w) (c0 : CodeArg w a0 len0 cap0) :
    Calls Tryz.prog 3 #[.slice a0 len0 cap0] w fun e w' => e = .returned (.bool true) ∧ Below w.heap.size w w' := by
  by_cases h0 : 1048576 < len0
  · go_enter Tryz.func3, Tryz.ntmps3
    go_wp2
    go_ret
    exact ⟨rfl, Below.refl _ _⟩
  go_enter Tryz.func3, Tryz.ntmps3
  go_wp2_with fail
  refine (c_DrawExecute _ _ _ _ c0).mono ?_
  rintro e w1 ⟨t, ht, rfl, hg1⟩
  have HE1 := Lib.hid (hE.grown hg1)
  have k1 := Lib.hid (fun x hx => c_impl_Execute t x (by omega) hx)
  have k2 := Lib.hid (fun x => c_spec_Execute t x (by omega))
  obtain ⟨x, b, hxb', hx, hb⟩ := whole_rest t
  have hxb := hxb'.symm
  clear hxb'
  have hcut := Lib.hid (fun u => c_completeLines x b t u hxb hx hb (by omega))
  have hsx : x.size ≤ t.size := by rw [← hxb, ByteArray.size_append]; omega
  have hex := Lib.hid (fun h => exec_whole (x := x) (b := b) hx hb h)
  rw [hxb] at hex
  have k3 := Lib.hid (fun u hu => c_impl_Execute x u (by omega) hu)
  obtain ⟨X, hX⟩ : ∃ X, exec t = X := ⟨_, rfl⟩
  rw [hX] at k1 k2
  rw [hX] at hex
  clear hxb hx hb
  clear hX c0
  go_wp2_with fail
  refine (k1.out _ HE1.out).mono ?_
  rintro e w2 ⟨rfl, hg2⟩
  have HE2 := Lib.hid (HE1.out.grown hg2)
  have hG2 := gb_trans hg1 hg2
  go_wp2_with fail
  refine (k2.out _).mono ?_
  rintro e w3 ⟨rfl, hg3⟩
  have HE3 := Lib.hid (HE2.out.grown hg3)
  have hG3 := gb_trans hG2 hg3
  clear k1 k2 hg1 hg2 hg3 hG2
  have hXX : (X.toList != X.toList) = false := by simp
  by_cases h4 : 400 < t.size
  · have h4' : (400 : Int) < (t.size : Int) := by omega
    go_wp2
    go_ret
    exact ⟨ret_bool (by first | rfl | simp), gb_below hG3⟩
  · have h4' : ¬ (400 : Int) < (t.size : Int) := by omega
    have he := hex.out (by omega)
    rw [he] at k3
    go_wp2_with fail
    refine (hcut.out _).mono ?_
    rintro e w4 ⟨rfl, rfl⟩
    go_wp2_with fail
    refine (k3.out _ HE3.out).mono ?_
    rintro e w4 ⟨rfl, hg4⟩
    go_wp2
    go_ret
    exact ⟨ret_bool (by first | rfl | simp), gb_below (gb_trans hG3 hg4)⟩
end Go.Proofs.YtboobimpoddacaaGreatDoor.lawFnScriptCut
