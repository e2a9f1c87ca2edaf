/-
  The walk of the law FnContestOne: a single candidate wins.
-/
import Derived.Test.YtipnalfkpalieaaContest
import Derived.Test.YtipnalfkpalieaaDrawCon
import Derived.Test.YtipnalfkpalieaaArgs
namespace Go.Proofs.Ytipnalfkpalieaa.lawFnContestOne
open Go.RowKit
set_option linter.unusedVariables false

/-- Two ballots for one candidate. -/
def onePs : List Pl := [(⟨#[]⟩, 1), (⟨#[97]⟩, 2)]
theorem one_fit : fitOK onePs 1 = true := by decide +kernel
theorem one_ok (m : Int) (h : 1 ≤ m ∧ m ≤ 3) : conOK onePs 1 m 5 = true := conOK_iff.2 ⟨one_fit, h, by omega⟩
theorem one_win (m : Int) (h : 1 ≤ m ∧ m ≤ 3) : cWin onePs 1 m 5 = 0 := by have := cWin_range (one_ok m h); omega
theorem one_agree : agreeB onePs 1 5 = true := by
  unfold agreeB
  rw [one_win 1 (by omega), one_win 2 (by omega), one_win 3 (by omega)]
  rfl
theorem one_run {ps : List Pl} {s : Int} (h : agreeB ps 1 s = true) : cWin ps 1 2 s = 0 := by
  unfold agreeB at h
  rw [Bool.and_eq_true, Bool.and_eq_true] at h
  have h1 : conOK ps 1 1 s = true := by rw [cWin_ok]; exact h.1.1
  have h2 := conOK_iff.1 h1
  have := cWin_range (conOK_iff.2 (show fitOK ps 1 = true ∧ (1 ≤ (2 : Int) ∧ (2 : Int) ≤ 3) ∧ 0 ≤ s ∧ s ≤ 999 from ⟨h2.1, by omega, h2.2.2⟩))
  omega

set_option maxHeartbeats 4000000 in
set_option maxRecDepth 100000 in
theorem walk (a0 : Option Addr) (len0 cap0 : Nat) (w : World) (c0 : CodeArg w a0 len0 cap0) :
    Calls Try.prog 8 #[.slice a0 len0 cap0] w fun e w' => e = .returned (.bool true) ∧ Below w.heap.size w w' := by
  by_cases h0 : 1048576 < len0
  · go_enter Try.func8, Try.ntmps8
    go_wp2
    go_ret
    exact ⟨rfl, Below.refl _ _⟩
  go_enter Try.func8, Try.ntmps8
  go_wp2_with fail
  refine (c_DrawContestAgrees _ _ _ _ c0).mono ?_
  rintro e w1 ⟨A, N, c, ps, n, s, rfl, hP, hsm, hn0, hn6, hg1⟩
  have Hs : Hid (∀ p ∈ ps, p.1.size ≤ 2000000) := Lib.hid (fun p hp => by have := hsm.2 p hp; omega)
  obtain ⟨V, hV⟩ : ∃ V, agreeB ps n s = V := ⟨_, rfl⟩
  have HV := Lib.hid hV
  have hVV : (V != V) = false := by simp
  have hVV2 : (V == V) = true := by simp
  clear hV hsm c0
  go_wp2_with fail
  refine (c_impl_ContestAgrees _ A N c ps n s _ hP Hs.out).mono ?_
  rintro e w2 ⟨rfl, hg2⟩
  rw [HV.out]
  have hP2 := Piles.keep0 hP hg2
  have hG2 := gb_trans hg1 hg2
  go_wp2_with fail
  refine (c_spec_ContestAgrees _ A N c ps n s _ hP2 Hs.out).mono ?_
  rintro e w3 ⟨rfl, hg3⟩
  rw [HV.out]
  have hP3 := Piles.keep0 hP2 hg3
  have hG3 := gb_trans hG2 hg3
  clear hP hP2 hg1 hG2 hg2 hg3
  have hxa := gb_alloc (gb_refl w3 none) (.cells #[.string ⟨#[]⟩, .int .i64 1, .string ⟨#[97]⟩, .int .i64 2] 46)
  have hBx := Blk.new w3 46 #[.string ⟨#[]⟩, .int .i64 1, .string ⟨#[97]⟩, .int .i64 2]
  have hPx : Piles (w3.alloc (.cells #[.string ⟨#[]⟩, .int .i64 1, .string ⟨#[97]⟩, .int .i64 2] 46)) w3.heap.size (some ⟨w3.heap.size, 0, none⟩) 2 2 onePs := Sl.own (own_of_blk (size := 2) (n := 2) hBx rfl (by omega) (Nat.le_refl _))
  have Hx : Hid (∀ p ∈ onePs, p.1.size ≤ 2000000) := Lib.hid (by decide)
  have hw1 := Lib.hid (one_win 1 (by omega))
  have hw2 := Lib.hid one_agree
  obtain ⟨X, hX⟩ : ∃ X, w3.alloc (.cells #[.string ⟨#[]⟩, .int .i64 1, .string ⟨#[97]⟩, .int .i64 2] 46) = X := ⟨_, rfl⟩
  rw [hX] at hPx hxa
  clear hBx
  go_wp2_with fail
  refine (c_impl_ContestWinner _ _ 2 2 onePs 1 1 5 _ hPx Hx.out).mono ?_
  rintro e w4 ⟨rfl, hg4⟩
  rw [hw1.out]
  go_wp2_with fail
  refine (c_impl_ContestAgrees _ _ 2 2 onePs 1 5 _ (Piles.keep0 hPx hg4) Hx.out).mono ?_
  rintro e w5 ⟨rfl, hg5⟩
  rw [hw2.out]
  have hg35 := gb_trans hxa (gb_trans hg4 hg5)
  have hG5 := gb_trans hG3 hg35
  have hP5 := Piles.keep0 hP3 hg35
  clear hX hPx hxa hg4 hg5 hP3 hG3 hg35
  by_cases h1 : n = 1
  · subst h1
    cases V with
    | false =>
      go_wp2
      go_ret
      exact ⟨rfl, gb_below hG5⟩
    | true =>
      have hrun := Lib.hid (one_run HV.out)
      go_wp2_with fail
      refine (c_impl_ContestWinner _ A N c ps 1 2 s _ hP5 Hs.out).mono ?_
      rintro e w6 ⟨rfl, hg6⟩
      rw [hrun.out]
      go_wp2
      go_ret
      exact ⟨rfl, gb_below (gb_trans hG5 hg6)⟩
  · have h2 : (n != 1) = true := by rw [bne_iff_ne]; exact h1
    clear h1
    go_wp2
    go_ret
    exact ⟨rfl, gb_below hG5⟩
end Go.Proofs.Ytipnalfkpalieaa.lawFnContestOne
