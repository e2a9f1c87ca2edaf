/-
  The walk of the law FnContestPair: a winner of pairs wins a contest of pairs.
-/
import Derived.Test.YtipnalfkpalieaaPairTop
import Derived.Test.YtipnalfkpalieaaDrawCon
import Derived.Test.YtipnalfkpalieaaArgs
namespace Go.Proofs.Ytipnalfkpalieaa.lawFnContestPair
open Go.RowKit
set_option linter.unusedVariables false

theorem con_pair {ps : List Pl} {N k : Nat} {m s : Int} (hok : conOK ps (N : Int) m s = true) (hk : k < N) (h : ∀ y, y < N → y ≠ k → cnt ps y k < cnt ps k y) (S : Nat) (hS : S ≤ 999) : cWin ps (N : Int) 3 (S : Int) = (k : Int) := by
  have hh := conOK_iff.1 hok
  rw [conOK_yes hh.1 (by omega) hS]
  unfold winM
  rw [if_neg (by omega), if_neg (by omega)]
  exact pWin_condorcet (lotsOf_perm _ _) (cnt_nn (fit_many hh.1).1) hk h

set_option maxHeartbeats 4000000 in
set_option maxRecDepth 100000 in
theorem walk (a0 : Option Addr) (len0 cap0 : Nat) (a1 : Option Addr) (len1 cap1 : Nat) (w : World) (c0 : CodeArg w a0 len0 cap0) (c1 : CodeArg w a1 len1 cap1) :
    Calls Try.prog 10 #[.slice a0 len0 cap0, .slice a1 len1 cap1] w fun e w' => e = .returned (.bool true) ∧ Below w.heap.size w w' := by
  by_cases h0 : 1048576 < len0
  · go_enter Try.func10, Try.ntmps10
    go_wp2
    go_ret
    exact ⟨rfl, Below.refl _ _⟩
  by_cases h1 : 1048576 < len1
  · go_enter Try.func10, Try.ntmps10
    go_wp2
    go_ret
    exact ⟨rfl, Below.refl _ _⟩
  have hl1 : len1 ≤ 1048576 := by omega
  clear c1
  go_enter Try.func10, Try.ntmps10
  go_wp2_with fail
  refine (c_DrawContestWinner _ _ _ _ c0).mono ?_
  rintro e w1 ⟨A, N, c, ps, n, m, s, rfl, hP, hsm, hn0, hn6, hg1⟩
  have Hs : Hid (∀ p ∈ ps, p.1.size ≤ 2000000) := Lib.hid (fun p hp => by have := hsm.2 p hp; omega)
  obtain ⟨V, hV⟩ : ∃ V, cWin ps n m s = V := ⟨_, rfl⟩
  have HV := Lib.hid hV
  have hVV : (V != V) = false := by simp
  have hVV2 : (V == V) = true := by simp
  clear hV hsm c0
  go_wp2_with fail
  refine (c_impl_ContestWinner _ A N c ps n m s _ hP Hs.out).mono ?_
  rintro e w2 ⟨rfl, hg2⟩
  rw [HV.out]
  have hP2 := Piles.keep0 hP hg2
  have hG2 := gb_trans hg1 hg2
  go_wp2_with fail
  refine (c_spec_ContestWinner _ A N c ps n m s _ hP2 Hs.out).mono ?_
  rintro e w3 ⟨rfl, hg3⟩
  rw [HV.out]
  have hP3 := Piles.keep0 hP2 hg3
  have hG3 := gb_trans hG2 hg3
  clear hP hP2 hg1 hG2 hg2 hg3
  by_cases hneg : V < 0
  · go_wp2
    go_ret
    exact ⟨rfl, gb_below hG3⟩
  have hV0 : 0 ≤ V := by omega
  have hok : conOK ps n m s = true := by rw [cWin_ok, HV.out]; exact decide_eq_true hV0
  have hh := conOK_iff.1 hok
  have hN := (fit_many hh.1).2.2
  obtain ⟨K, rfl⟩ : ∃ K : Nat, n = (K : Int) := ⟨n.toNat, by omega⟩
  obtain ⟨S, rfl⟩ : ∃ S : Nat, s = (S : Int) := ⟨s.toNat, by omega⟩
  have hK1 : 1 ≤ K := by omega
  have hK5 : K ≤ 5 := by omega
  have hS9 : S ≤ 999 := by omega
  have Hfit := Lib.hid hh.1
  have Hok := Lib.hid hok
  obtain ⟨q, hq⟩ : ∃ q, len1 % 100 = q := ⟨_, rfl⟩
  have hq9 : q ≤ 999 := by omega
  have hrem : (len1 : Int).tmod 100 = (q : Int) := by rw [← hq]; exact rem_nat len1 100
  have hrem2 : (len1 : Int) % 100 = (q : Int) := by omega
  have hpw := Lib.hid (fun (k : Nat) (hk : k < K) (hc : ∀ y, y < K → y ≠ k → cnt ps y k < cnt ps k y) (S' : Nat) (hS' : S' ≤ 999) => con_pair hok hk hc S' hS')
  clear hok hh hN hq
  go_wp2_with fail
  refine (c_PairWinner _ A N c K ps _ hP3 Hs.out Hfit.out).mono ?_
  rintro e w4 ⟨v, rfl, hg4, hv⟩
  have hP4 := Piles.keep0 hP3 hg4
  have hG4 := gb_trans hG3 hg4
  clear hP3 hG3 hg4
  rcases hv with rfl | ⟨k, rfl, hk, hc⟩
  · go_wp2
    go_ret
    exact ⟨rfl, gb_below hG4⟩
  · have e1 := Lib.hid (hpw.out k hk hc S hS9)
    have e2 := Lib.hid (hpw.out k hk hc q hq9)
    have hkk : ((k : Int) == (k : Int)) = true := by simp
    have hkn : ¬ ((k : Int) < 0) := by omega
    clear hpw hc
    go_wp2_with fail
    refine (c_impl_ContestWinner _ A N c ps (K : Int) 3 (S : Int) _ hP4 Hs.out).mono ?_
    rintro e w5 ⟨rfl, hg5⟩
    rw [e1.out]
    go_wp2_with fail
    refine (c_impl_ContestWinner _ A N c ps (K : Int) 3 (q : Int) _ (Piles.keep0 hP4 hg5) Hs.out).mono ?_
    rintro e w6 ⟨rfl, hg6⟩
    rw [e2.out]
    go_wp2
    go_ret
    exact ⟨rfl, gb_below (gb_trans hG4 (gb_trans hg5 hg6))⟩
end Go.Proofs.Ytipnalfkpalieaa.lawFnContestPair
