/-
  The walk of the law FnContestAgrees: all methods may agree.
-/
import Derived.Test.YtipnalfkpalieaaContest
import Derived.Test.YtipnalfkpalieaaDrawCon
import Derived.Test.YtipnalfkpalieaaArgs
namespace Go.Proofs.Ytipnalfkpalieaa.lawFnContestAgrees
open Go.RowKit
set_option linter.unusedVariables false

set_option maxHeartbeats 4000000 in
set_option maxRecDepth 100000 in
theorem walk (a0 : Option Addr) (len0 cap0 : Nat) (w : World) (c0 : CodeArg w a0 len0 cap0) :
    Calls Try.prog 7 #[.slice a0 len0 cap0] w fun e w' => e = .returned (.bool true) ∧ Below w.heap.size w w' := by
  by_cases h0 : 1048576 < len0
  · go_enter Try.func7, Try.ntmps7
    go_wp2
    go_ret
    exact ⟨rfl, Below.refl _ _⟩
  go_enter Try.func7, Try.ntmps7
  go_wp2_with fail
  refine (c_DrawContestAgrees _ _ _ _ c0).mono ?_
  rintro e w1 ⟨A, N, c, ps, n, s, rfl, hP, hsm, hn0, hn6, hg1⟩
  have Hs : Hid (∀ p ∈ ps, p.1.size ≤ 2000000) := Lib.hid (fun p hp => by have := hsm.2 p hp; omega)
  obtain ⟨V, hV⟩ : ∃ V, agreeB ps n s = V := ⟨_, rfl⟩
  have HV := Lib.hid hV
  have hVV : (V != V) = false := by simp
  have hVV2 : (V == V) = true := by simp
  clear hV hsm c0
  go_wp2_with fail
  refine (c_impl_ContestAgrees _ A N c ps n s _ hP Hs.out).mono ?_
  rintro e w2 ⟨rfl, hg2⟩
  rw [HV.out]
  have hP2 := Piles.keep0 hP hg2
  have hG2 := gb_trans hg1 hg2
  go_wp2_with fail
  refine (c_spec_ContestAgrees _ A N c ps n s _ hP2 Hs.out).mono ?_
  rintro e w3 ⟨rfl, hg3⟩
  rw [HV.out]
  have hP3 := Piles.keep0 hP2 hg3
  have hG3 := gb_trans hG2 hg3
  clear hP hP2 hg1 hG2 hg2 hg3
  obtain ⟨a, ha⟩ : ∃ a, cWin ps n 1 s = a := ⟨_, rfl⟩
  obtain ⟨b, hb⟩ : ∃ a, cWin ps n 2 s = a := ⟨_, rfl⟩
  obtain ⟨d, hd⟩ : ∃ a, cWin ps n 3 s = a := ⟨_, rfl⟩
  have hf : Hid (V = (decide (0 ≤ a) && decide (a = b) && decide (a = d))) := Lib.hid (by rw [← HV.out]; unfold agreeB; rw [ha, hb, hd])
  have Ha := Lib.hid ha
  have Hb := Lib.hid hb
  have Hd := Lib.hid hd
  clear ha hb hd
  go_wp2_with fail
  refine (c_impl_ContestWinner _ A N c ps n 1 s _ hP3 Hs.out).mono ?_
  rintro e w4 ⟨rfl, hg4⟩
  rw [Ha.out]
  have hP4 := Piles.keep0 hP3 hg4
  have hG4 := gb_trans hG3 hg4
  go_wp2_with fail
  refine (c_impl_ContestWinner _ A N c ps n 2 s _ hP4 Hs.out).mono ?_
  rintro e w5 ⟨rfl, hg5⟩
  rw [Hb.out]
  have hP5 := Piles.keep0 hP4 hg5
  have hG5 := gb_trans hG4 hg5
  go_wp2_with fail
  refine (c_impl_ContestWinner _ A N c ps n 3 s _ hP5 Hs.out).mono ?_
  rintro e w6 ⟨rfl, hg6⟩
  rw [Hd.out]
  have hG6 := gb_trans hG5 hg6
  clear hP3 hP4 hP5 hg4 hg5 hg6 hG3 hG4 hG5 Ha Hb Hd HV
  by_cases h1 : 0 ≤ a
  · by_cases h2 : a = b
    · have e2 : (a == b) = true := by simpa using h2
      by_cases h3 : b = d
      · have e3 : (b == d) = true := by simpa using h3
        obtain rfl : V = true := by rw [hf.out]; simp [h2, h3]; omega
        clear h2 h3 hf
        go_wp2
        go_ret
        exact ⟨rfl, gb_below hG6⟩
      · have e3 : (b == d) = false := by simpa using h3
        obtain rfl : V = false := by rw [hf.out, decide_eq_false (show ¬ a = d from fun e => h3 (h2.symm.trans e))]; simp
        clear h2 h3 hf
        go_wp2
        go_ret
        exact ⟨rfl, gb_below hG6⟩
    · have e2 : (a == b) = false := by simpa using h2
      obtain rfl : V = false := by rw [hf.out, decide_eq_false h2]; simp
      clear h2 hf
      go_wp2
      go_ret
      exact ⟨rfl, gb_below hG6⟩
  · obtain rfl : V = false := by rw [hf.out, decide_eq_false h1]; rfl
    clear hf
    go_wp2
    go_ret
    exact ⟨rfl, gb_below hG6⟩
end Go.Proofs.Ytipnalfkpalieaa.lawFnContestAgrees
