/-
  The walk of the law FnContestText: a report ends with the winner.
-/
import Derived.Test.YtipnalfkpalieaaDoorDrawCon
import Derived.Test.YtipnalfkpalieaaDoorDoorB
import Derived.Test.YtipnalfkpalieaaDoorArgs
namespace Go.Proofs.YtipnalfkpalieaaDoor.lawFnContestText
open Go.RowKit
set_option linter.unusedVariables false

theorem c_DrawContestText (A0 : Option Addr) (len cap : Nat) (w : World) (h : CodeArg w A0 len cap) :
    Calls Tryd.prog 11 #[.slice A0 len cap] w (ConGot w) := by
  go_enter Tryd.func11, Tryd.ntmps11
  go_wp2_with fail
  refine (c_DrawContestWinner A0 len cap w h).mono ?_
  rintro e w1 ⟨A, N, c, ps, n, m, s, rfl, hP, hsm, hn0, hn6, hg⟩
  go_wp2
  try simp only [Exit.inBlock, Exit.then]
  refine bodyPost_ret (results_tmp4 rfl _ _ _) rfl ?_
  exact ⟨A, N, c, ps, n, m, s, rfl, hP, hsm, hn0, hn6, hg⟩

theorem ext_end (a b : ByteArray) : (a ++ b).extract a.size (a ++ b).size = b := by
  rw [ByteArray.size_append]
  exact ByteArray.extract_append_eq_right rfl rfl

set_option maxHeartbeats 4000000 in
set_option maxRecDepth 100000 in
theorem walk (a0 : Option Addr) (len0 cap0 : Nat) (w : World) (hT : Tab w) (c0 : CodeArg w a0 len0 cap0) :
    Calls Tryd.prog 5 #[.slice a0 len0 cap0] w fun e w' => e = .returned (.bool true) ∧ Below w.heap.size w w' := by
  have HT := Lib.hid hT
  clear hT
  by_cases h0 : 1048576 < len0
  · go_enter Tryd.func5, Tryd.ntmps5
    go_wp2
    go_ret
    exact ⟨rfl, Below.refl _ _⟩
  go_enter Tryd.func5, Tryd.ntmps5
  go_wp2_with fail
  refine (c_DrawContestText _ _ _ _ c0).mono ?_
  rintro e w1 ⟨A, N, c, ps, n, m, s, rfl, hP, hsm, hn0, hn6, hg1⟩
  have Hs : Hid (∀ p ∈ ps, p.1.size ≤ 2000000) := Lib.hid (fun p hp => by have := hsm.2 p hp; omega)
  have hct := Lib.hid (show conOK ps n m s = true → _ from conText_yes (ps := ps) (n := n) (m := m) (s := s))
  obtain ⟨T, hT⟩ : ∃ V, conText ps n m s = V := ⟨_, rfl⟩
  have HTx := Lib.hid hT
  clear hT hsm c0
  go_wp2_with fail
  refine (c_impl_ContestText _ A N c ps n m s _ hP Hs.out (HT.out.grown hg1)).mono ?_
  rintro e w2 ⟨rfl, hg2⟩
  rw [HTx.out]
  have hP2 := Piles.keep0 hP hg2
  have hG2 := gb_trans hg1 hg2
  go_wp2_with fail
  refine (c_spec_ContestText _ A N c ps n m s _ hP2 Hs.out).mono ?_
  rintro e w3 ⟨rfl, hg3⟩
  rw [HTx.out]
  have hP3 := Piles.keep0 hP2 hg3
  have hG3 := gb_trans hG2 hg3
  clear hP hP2 hg1 hG2 hg2 hg3
  obtain ⟨V, hV⟩ : ∃ V, cWin ps n m s = V := ⟨_, rfl⟩
  have HV := Lib.hid hV
  clear hV
  go_wp2_with fail
  refine (c_impl_ContestWinner _ A N c ps n m s _ hP3 Hs.out).mono ?_
  rintro e w4 ⟨rfl, hg4⟩
  rw [HV.out]
  have hG4 := gb_trans hG3 hg4
  by_cases hneg : V < 0
  · have hno : conOK ps n m s = false := by rw [cWin_ok, HV.out]; exact decide_eq_false (by omega)
    obtain rfl : T = ⟨#[]⟩ := by rw [← HTx.out, conText_no hno]
    go_wp2
    go_ret
    exact ⟨rfl, gb_below hG4⟩
  have hV0 : 0 ≤ V := by omega
  have hok : conOK ps n m s = true := by rw [cWin_ok, HV.out]; exact decide_eq_true hV0
  have hct := hct.out hok
  rw [HTx.out, HV.out] at hct
  have hbv := ballotText_size [V] (by simp)
  unfold endText at hct
  obtain ⟨Y, hY⟩ : ∃ Y, ballotText [V] = Y := ⟨_, rfl⟩
  have HY := Lib.hid hY
  rw [hY] at hct hbv
  obtain ⟨E1, hE1⟩ : ∃ T, (⟨#[119, 105, 110, 110, 101, 114, 32]⟩ : ByteArray) ++ Y = T := ⟨_, rfl⟩
  obtain ⟨E2, hE2⟩ : ∃ T, E1 ++ (⟨#[10]⟩ : ByteArray) = T := ⟨_, rfl⟩
  have l3 : (⟨#[10]⟩ : ByteArray).size = 1 := rfl
  have l4 : (⟨#[119, 105, 110, 110, 101, 114, 32]⟩ : ByteArray).size = 7 := rfl
  have y1 : E1.size = 7 + Y.size := by rw [← hE1, ByteArray.size_append, l4]
  have y2 : E2.size = E1.size + 1 := by rw [← hE2, ByteArray.size_append, l3]
  have b1 := add_str _ _ _ hE1 (by omega)
  have b2 := add_str _ _ _ hE2 (by omega)
  rw [hE1, hE2] at hct
  have hhd : 1 ≤ (headText ps (lotsOf n.toNat s.toNat)).size := by
    unfold headText
    rw [ByteArray.size_append, l3]
    omega
  have hh := conOK_iff.1 hok
  have hms := midText_size (lots := lotsOf n.toNat s.toNat) m (show fitOK ps ((n.toNat : Nat) : Int) = true by rw [Int.toNat_of_nonneg hn0]; exact hh.1) (lotsOf_len _ _)
  have hhs := headText_size ps (lotsOf n.toNat s.toNat) (by have := sum_bounds hh.1; omega) (by rw [lotsOf_len]; omega)
  obtain ⟨F, hF⟩ : ∃ F, headText ps (lotsOf n.toNat s.toNat) ++ midText ps n.toNat m (lotsOf n.toNat s.toNat) = F := ⟨_, rfl⟩
  have hFs : F.size ≤ 10000 := by rw [← hF, ByteArray.size_append]; omega
  have hF1 : 1 ≤ F.size := by rw [← hF, ByteArray.size_append]; omega
  rw [hF] at hct
  have hex : T.extract F.size T.size = E2 := by rw [hct]; exact ext_end _ _
  have hts : T.size = F.size + E2.size := by rw [hct, ByteArray.size_append]
  obtain ⟨f, hf⟩ : ∃ f, F.size = f := ⟨_, rfl⟩
  obtain ⟨t, ht⟩ : ∃ f, T.size = f := ⟨_, rfl⟩
  obtain ⟨q, hq⟩ : ∃ f, E2.size = f := ⟨_, rfl⟩
  have hsub : (t : Int) - (q : Int) = (f : Int) := by omega
  have hlt : (q : Int) < (t : Int) := by omega
  have hft : (f : Int) ≤ (t : Int) := by omega
  have hf0 : (0 : Int) ≤ (f : Int) := by omega
  have hwr : IntKind.i64.wrap (f : Int) = (f : Int) := IntWalk.i64_in _ (by omega)
  rw [hf, ht] at hex
  clear hct hbv l3 l4 y1 y2 hE1 hE2 hhd hh hms hhs hF hFs hF1 hts hf hok hY hP3
  go_wp2_with fail
  refine (c_impl_BallotText _ _ 1 1 [V] _ (ints_one _ V) (by omega)).mono ?_
  rintro e wa ⟨rfl, hga⟩
  rw [HY.out]
  have hGa := gb_trans (gb_alloc hG4 _) hga
  go_wp2
  go_ret
  exact ⟨rfl, gb_below hGa⟩
end Go.Proofs.YtipnalfkpalieaaDoor.lawFnContestText
