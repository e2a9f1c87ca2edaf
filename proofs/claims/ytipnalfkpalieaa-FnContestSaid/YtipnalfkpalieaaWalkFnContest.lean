/-
  The walk of the law FnContest: a contest has a winner.
-/
import Derived.Test.YtipnalfkpalieaaContest
import Derived.Test.YtipnalfkpalieaaDrawCon
import Derived.Test.YtipnalfkpalieaaArgs
namespace Go.Proofs.Ytipnalfkpalieaa.lawFnContest
open Go.RowKit
set_option linter.unusedVariables false

set_option maxHeartbeats 4000000 in
set_option maxRecDepth 100000 in
theorem walk (a0 : Option Addr) (len0 cap0 : Nat) (w : World) (c0 : CodeArg w a0 len0 cap0) :
    Calls Try.prog 6 #[.slice a0 len0 cap0] w fun e w' => e = .returned (.bool true) ∧ Below w.heap.size w w' := by
  by_cases h0 : 1048576 < len0
  · go_enter Try.func6, Try.ntmps6
    go_wp2
    go_ret
    exact ⟨rfl, Below.refl _ _⟩
  go_enter Try.func6, Try.ntmps6
  go_wp2_with fail
  refine (c_DrawContestWinner _ _ _ _ c0).mono ?_
  rintro e w1 ⟨A, N, c, ps, n, m, s, rfl, hP, hsm, hn0, hn6, hg1⟩
  have Hs : Hid (∀ p ∈ ps, p.1.size ≤ 2000000) := Lib.hid (fun p hp => by have := hsm.2 p hp; omega)
  obtain ⟨V, hV⟩ : ∃ V, cWin ps n m s = V := ⟨_, rfl⟩
  have HV := Lib.hid hV
  have hVV : (V != V) = false := by simp
  have hVV2 : (V == V) = true := by simp
  clear hV hsm c0
  go_wp2_with fail
  refine (c_impl_ContestWinner _ A N c ps n m s _ hP Hs.out).mono ?_
  rintro e w2 ⟨rfl, hg2⟩
  rw [HV.out]
  have hP2 := Piles.keep0 hP hg2
  have hG2 := gb_trans hg1 hg2
  go_wp2_with fail
  refine (c_spec_ContestWinner _ A N c ps n m s _ hP2 Hs.out).mono ?_
  rintro e w3 ⟨rfl, hg3⟩
  rw [HV.out]
  have hP3 := Piles.keep0 hP2 hg3
  have hG3 := gb_trans hG2 hg3
  clear hP hP2 hg1 hG2 hg2 hg3
  by_cases hneg : V < 0
  · go_wp2
    go_ret
    exact ⟨rfl, gb_below hG3⟩
  have hV0 : 0 ≤ V := by omega
  have hok : conOK ps n m s = true := by rw [cWin_ok, HV.out]; exact decide_eq_true hV0
  have hh := conOK_iff.1 hok
  have hN := (fit_many hh.1).2.2
  obtain ⟨K, rfl⟩ : ∃ K : Nat, n = (K : Int) := ⟨n.toNat, by omega⟩
  obtain ⟨S, rfl⟩ : ∃ S : Nat, s = (S : Int) := ⟨s.toNat, by omega⟩
  have hK1 : 1 ≤ K := by omega
  have hK5 : K ≤ 5 := by omega
  have hS9 : S ≤ 999 := by omega
  have Hfit := Lib.hid hh.1
  have Hok := Lib.hid hok
  have hwe := conOK_yes hh.1 hh.2.1 hS9
  rw [HV.out] at hwe
  have Hwe := Lib.hid hwe
  have hVK := (cWin_range hok).2
  rw [HV.out] at hVK
  have hcl := c_impl_LotsOf (K : Int) (S : Int) w3
  have hL : lotsOK (K : Int) (S : Int) = true := (lotsOK_iff _ _).2 ⟨by omega, by omega⟩
  have hres : lotsRes (K : Int) (S : Int) = lotsOf K S := by unfold lotsRes; rw [hL, if_pos rfl, Int.toNat_natCast, Int.toNat_natCast]
  rw [hL, hres] at hcl
  have Hc := Lib.hid hcl
  have Hp := Lib.hid (lotsOf_perm K S)
  have Hll := Lib.hid (lotsOf_len K S)
  have hmm := hh.2.1
  have hcnn := Lib.hid (cnt_nn (fit_many hh.1).1)
  have hbest : Hid (m = 3 → decide (V ∈ bestL (paths (cnt ps) K) K) = true) := Lib.hid (fun e => by
    rw [hwe]
    unfold winM
    rw [if_neg (by omega), if_neg (by omega)]
    exact decide_eq_true (pWin_mem (lotsOf_perm K S) (cnt_nn (fit_many hh.1).1) hK1).2)
  clear hwe hcl hL hres hok hh hN
  go_wp2_with fail
  refine Hc.out.mono ?_
  rintro e w4 ⟨D, k, cD, rfl, hg4, hD⟩
  obtain rfl : k = K := by have := hD.1; simp [Hll.out] at this; exact this.symm
  have hI4 : Ints w4 w3.heap.size D k cD (lotsOf k S) := Sl.own hD
  have hP4 := Piles.keep0 hP3 hg4
  have hG4 := gb_trans hG3 hg4
  clear hD hP3 hG3 hg4 Hc
  by_cases h1 : m = 1
  · subst h1
    have he : Hid (plurW ps (lotsOf k S) k = V) := Lib.hid (by rw [Hwe.out]; rfl)
    go_wp2_with fail
    refine (c_impl_PluralityWinner _ _ A D N c k cD ps (lotsOf k S) _ hP4 hI4 Hs.out Hfit.out Hp.out).mono ?_
    rintro e w5 ⟨rfl, hg5⟩
    rw [he.out]
    go_wp2
    go_ret
    exact ⟨rfl, gb_below (gb_trans hG4 hg5)⟩
  by_cases h2 : m = 2
  · subst h2
    have he : Hid (runW ps (lotsOf k S) = V) := Lib.hid (by rw [Hwe.out]; rfl)
    go_wp2_with fail
    refine (c_impl_RunoffWinner _ _ A D N c k cD ps (lotsOf k S) _ hP4 hI4 Hs.out Hfit.out Hp.out).mono ?_
    rintro e w5 ⟨rfl, hg5⟩
    rw [he.out]
    go_wp2
    go_ret
    exact ⟨rfl, gb_below (gb_trans hG4 hg5)⟩
  have m1 : (m == 1) = false := by simpa using h1
  have m2 : (m == 2) = false := by simpa using h2
  have hb := Lib.hid (hbest.out (by omega))
  clear h1 h2 hbest
  go_wp2_with fail
  refine (c_impl_PairBest _ A N c k ps _ hP4 Hs.out Hfit.out).mono ?_
  rintro e w5 ⟨B, mb, cB, rfl, hg5, hB⟩
  have hIB : Ints w5 w4.heap.size B mb cB _ := Sl.own hB
  go_wp2_with fail
  refine (c_hasInt _ B mb cB _ V _ hIB).mono ?_
  rintro e w6 ⟨rfl, rfl⟩
  rw [hb.out]
  go_wp2
  go_ret
  exact ⟨rfl, gb_below (gb_trans hG4 hg5)⟩
end Go.Proofs.Ytipnalfkpalieaa.lawFnContest
