/-
  The walk of the law FnContestValid: only contests have a winner.
-/
import Derived.Test.YtipnalfkpalieaaContest
import Derived.Test.YtipnalfkpalieaaDrawCon
import Derived.Test.YtipnalfkpalieaaArgs
namespace Go.Proofs.Ytipnalfkpalieaa.lawFnContestValid
open Go.RowKit
set_option linter.unusedVariables false

set_option maxHeartbeats 4000000 in
set_option maxRecDepth 100000 in
theorem walk (a0 : Option Addr) (len0 cap0 : Nat) (w : World) (c0 : CodeArg w a0 len0 cap0) :
    Calls Try.prog 5 #[.slice a0 len0 cap0] w fun e w' => e = .returned (.bool true) ∧ Below w.heap.size w w' := by
  by_cases h0 : 1048576 < len0
  · go_enter Try.func5, Try.ntmps5
    go_wp2
    go_ret
    exact ⟨rfl, Below.refl _ _⟩
  go_enter Try.func5, Try.ntmps5
  go_wp2_with fail
  refine (c_DrawContestWinner _ _ _ _ c0).mono ?_
  rintro e w1 ⟨A, N, c, ps, n, m, s, rfl, hP, hsm, hn0, hn6, hg1⟩
  have Hs : Hid (∀ p ∈ ps, p.1.size ≤ 2000000) := Lib.hid (fun p hp => by have := hsm.2 p hp; omega)
  obtain ⟨V, hV⟩ : ∃ V, cWin ps n m s = V := ⟨_, rfl⟩
  have HV := Lib.hid hV
  have hVV : (V != V) = false := by simp
  have hVV2 : (V == V) = true := by simp
  clear hV hsm c0
  go_wp2_with fail
  refine (c_impl_ContestWinner _ A N c ps n m s _ hP Hs.out).mono ?_
  rintro e w2 ⟨rfl, hg2⟩
  rw [HV.out]
  have hP2 := Piles.keep0 hP hg2
  have hG2 := gb_trans hg1 hg2
  go_wp2_with fail
  refine (c_spec_ContestWinner _ A N c ps n m s _ hP2 Hs.out).mono ?_
  rintro e w3 ⟨rfl, hg3⟩
  rw [HV.out]
  have hP3 := Piles.keep0 hP2 hg3
  have hG3 := gb_trans hG2 hg3
  clear hP hP2 hg1 hG2 hg2 hg3
  by_cases h1 : 1 ≤ n
  case neg =>
    have hno : ¬ 0 ≤ V := by
      have h9 := cWin_ok (ps := ps) (n := n) (m := m) (s := s)
      rw [HV.out] at h9
      intro h8
      rw [decide_eq_true h8] at h9
      have h7 := conOK_iff.1 h9
      have h6 := (fit_many h7.1).2.2
      omega
    have hnd : Hid (decide (0 ≤ V) = false) := Lib.hid (decide_eq_false hno)
    go_wp2
    go_ret
    exact ⟨ret_bool (by first | rfl | (rw [hnd.out]; rfl) | (simp; omega)), gb_below hG3⟩
  by_cases h2 : n ≤ 5
  case neg =>
    have hno : ¬ 0 ≤ V := by
      have h9 := cWin_ok (ps := ps) (n := n) (m := m) (s := s)
      rw [HV.out] at h9
      intro h8
      rw [decide_eq_true h8] at h9
      have h7 := conOK_iff.1 h9
      have h6 := (fit_many h7.1).2.2
      omega
    have hnd : Hid (decide (0 ≤ V) = false) := Lib.hid (decide_eq_false hno)
    go_wp2
    go_ret
    exact ⟨ret_bool (by first | rfl | (rw [hnd.out]; rfl) | (simp; omega)), gb_below hG3⟩
  by_cases h3 : 1 ≤ m
  case neg =>
    have hno : ¬ 0 ≤ V := by
      have h9 := cWin_ok (ps := ps) (n := n) (m := m) (s := s)
      rw [HV.out] at h9
      intro h8
      rw [decide_eq_true h8] at h9
      have h7 := conOK_iff.1 h9
      have h6 := (fit_many h7.1).2.2
      omega
    have hnd : Hid (decide (0 ≤ V) = false) := Lib.hid (decide_eq_false hno)
    go_wp2
    go_ret
    exact ⟨ret_bool (by first | rfl | (rw [hnd.out]; rfl) | (simp; omega)), gb_below hG3⟩
  by_cases h4 : m ≤ 3
  case neg =>
    have hno : ¬ 0 ≤ V := by
      have h9 := cWin_ok (ps := ps) (n := n) (m := m) (s := s)
      rw [HV.out] at h9
      intro h8
      rw [decide_eq_true h8] at h9
      have h7 := conOK_iff.1 h9
      have h6 := (fit_many h7.1).2.2
      omega
    have hnd : Hid (decide (0 ≤ V) = false) := Lib.hid (decide_eq_false hno)
    go_wp2
    go_ret
    exact ⟨ret_bool (by first | rfl | (rw [hnd.out]; rfl) | (simp; omega)), gb_below hG3⟩
  by_cases h5 : 0 ≤ s
  case neg =>
    have hno : ¬ 0 ≤ V := by
      have h9 := cWin_ok (ps := ps) (n := n) (m := m) (s := s)
      rw [HV.out] at h9
      intro h8
      rw [decide_eq_true h8] at h9
      have h7 := conOK_iff.1 h9
      have h6 := (fit_many h7.1).2.2
      omega
    have hnd : Hid (decide (0 ≤ V) = false) := Lib.hid (decide_eq_false hno)
    go_wp2
    go_ret
    exact ⟨ret_bool (by first | rfl | (rw [hnd.out]; rfl) | (simp; omega)), gb_below hG3⟩
  by_cases h6 : s ≤ 999
  case neg =>
    have hno : ¬ 0 ≤ V := by
      have h9 := cWin_ok (ps := ps) (n := n) (m := m) (s := s)
      rw [HV.out] at h9
      intro h8
      rw [decide_eq_true h8] at h9
      have h7 := conOK_iff.1 h9
      have h6 := (fit_many h7.1).2.2
      omega
    have hnd : Hid (decide (0 ≤ V) = false) := Lib.hid (decide_eq_false hno)
    go_wp2
    go_ret
    exact ⟨ret_bool (by first | rfl | (rw [hnd.out]; rfl) | (simp; omega)), gb_below hG3⟩
  obtain ⟨K, rfl⟩ : ∃ K : Nat, n = (K : Int) := ⟨n.toNat, by omega⟩
  obtain ⟨F, hF⟩ : ∃ F, fitOK ps (K : Int) = F := ⟨_, rfl⟩
  have HF := Lib.hid hF
  have hVF : Hid (F = decide (0 ≤ V)) := Lib.hid (by
    have h9 := cWin_ok (ps := ps) (n := (K : Int)) (m := m) (s := s)
    rw [HV.out] at h9
    rw [← h9, ← hF]
    unfold conOK inB
    rw [decide_eq_true (show 1 ≤ m ∧ m ≤ 3 from ⟨h3, h4⟩), decide_eq_true (show 0 ≤ s ∧ s ≤ 999 from ⟨h5, h6⟩)]
    simp)
  obtain ⟨w4, hmk, hg4, hB4⟩ := mk_bools K (by omega) w3
  clear hF
  go_wp2_with fail
  refine (c_FirstCounts _ w3.heap.size A _ N c K K ps (List.replicate K false) w4 (Piles.keep0 hP3 hg4) (Sl.own hB4) Hs.out).mono ?_
  rintro e w5 ⟨D, q, rfl, hg5, _, _⟩
  rw [HF.out]
  have hG5 := gb_trans hG3 (gb_trans hg4 hg5)
  clear hmk hg4 hB4 hg5 hP3 hG3
  cases F with
  | true =>
    have hyes : 0 ≤ V := of_decide_eq_true hVF.out.symm
    go_wp2
    go_ret
    exact ⟨ret_bool (by first | rfl | simp [*]), gb_below hG5⟩
  | false =>
    have hno : ¬ 0 ≤ V := of_decide_eq_false hVF.out.symm
    go_wp2
    go_ret
    exact ⟨ret_bool (by first | rfl | simp [*]), gb_below hG5⟩
end Go.Proofs.Ytipnalfkpalieaa.lawFnContestValid
