/-
  The walk of the law FnContestMajority: a majority wins by all methods.
-/
import Derived.Test.YtipnalfkpalieaaMajLaw
import Derived.Test.YtipnalfkpalieaaDrawCon
import Derived.Test.YtipnalfkpalieaaArgs
namespace Go.Proofs.Ytipnalfkpalieaa.lawFnContestMajority
open Go.RowKit
set_option linter.unusedVariables false

attribute [local go_sem] flowAct flowOp_def flowUpon
set_option maxHeartbeats 4000000 in
set_option maxRecDepth 100000 in
theorem walk (a0 : Option Addr) (len0 cap0 : Nat) (w : World) (c0 : CodeArg w a0 len0 cap0) :
    Calls Try.prog 9 #[.slice a0 len0 cap0] w fun e w' => e = .returned (.bool true) ∧ Below w.heap.size w w' := by
  by_cases h0 : 1048576 < len0
  · go_enter Try.func9, Try.ntmps9
    go_wp2
    go_ret
    exact ⟨rfl, Below.refl _ _⟩
  go_enter Try.func9, Try.ntmps9
  go_wp2_with fail
  refine (c_DrawContestWinner _ _ _ _ c0).mono ?_
  rintro e w1 ⟨A, N, c, ps, n, m, s, rfl, hP, hsm, hn0, hn6, hg1⟩
  have Hs : Hid (∀ p ∈ ps, p.1.size ≤ 2000000) := Lib.hid (fun p hp => by have := hsm.2 p hp; omega)
  obtain ⟨V, hV⟩ : ∃ V, cWin ps n m s = V := ⟨_, rfl⟩
  have HV := Lib.hid hV
  have hVV : (V != V) = false := by simp
  have hVV2 : (V == V) = true := by simp
  clear hV hsm c0
  go_wp2_with fail
  refine (c_impl_ContestWinner _ A N c ps n m s _ hP Hs.out).mono ?_
  rintro e w2 ⟨rfl, hg2⟩
  rw [HV.out]
  have hP2 := Piles.keep0 hP hg2
  have hG2 := gb_trans hg1 hg2
  go_wp2_with fail
  refine (c_spec_ContestWinner _ A N c ps n m s _ hP2 Hs.out).mono ?_
  rintro e w3 ⟨rfl, hg3⟩
  rw [HV.out]
  have hP3 := Piles.keep0 hP2 hg3
  have hG3 := gb_trans hG2 hg3
  clear hP hP2 hg1 hG2 hg2 hg3
  by_cases hneg : V < 0
  · go_wp2
    go_ret
    exact ⟨rfl, gb_below hG3⟩
  have hV0 : 0 ≤ V := by omega
  have hok : conOK ps n m s = true := by rw [cWin_ok, HV.out]; exact decide_eq_true hV0
  have hh := conOK_iff.1 hok
  have hN := (fit_many hh.1).2.2
  obtain ⟨K, rfl⟩ : ∃ K : Nat, n = (K : Int) := ⟨n.toNat, by omega⟩
  obtain ⟨S, rfl⟩ : ∃ S : Nat, s = (S : Int) := ⟨s.toNat, by omega⟩
  have hK1 : 1 ≤ K := by omega
  have hK5 : K ≤ 5 := by omega
  have hS9 : S ≤ 999 := by omega
  have Hfit := Lib.hid hh.1
  have Hok := Lib.hid hok
  have hcon := Lib.hid (fun (i : Nat) (hi : i < K) (hmaj : sumPl ps < 2 * cAt (fCounts (List.replicate K false) ps) (i : Int)) => (And.intro (show V = (i : Int) by rw [← HV.out]; exact maj_con hok hi hmaj m hh.2.1) (maj_agree hok hi hmaj)))
  have htot := Lib.hid (fit_total hh.1)
  have hTb := Lib.hid (show 0 ≤ sumPl ps ∧ sumPl ps ≤ 1188 from by
    have h1 := (fit_many hh.1).2.1
    have h2 := hh.1
    unfold fitOK at h2
    rw [Bool.and_eq_true, Bool.and_eq_true] at h2
    have h3 := sumPl_bound ((pilesOK_iff ps).1 h2.1.2).1
    omega)
  have hFb := Lib.hid (fit_bounds hh.1 (List.replicate K false))
  have hFl : Hid ((fCounts (List.replicate K false) ps).length = K) := Lib.hid (by rw [fCounts_len]; simp)
  obtain ⟨w4, hmk, hg4, hB4⟩ := mk_bools K (by omega) w3
  have hres : fcRes ps (List.replicate K false) = fCounts (List.replicate K false) ps := by unfold fcRes; rw [List.length_replicate, if_pos hh.1]
  have hcall := c_FirstCounts _ w3.heap.size A _ N c K K ps (List.replicate K false) w4 (Piles.keep0 hP3 hg4) (Sl.own hB4) Hs.out
  rw [hres, hh.1] at hcall
  have Hc := Lib.hid hcall
  clear hok hh hN hcall hres hB4
  go_wp2_with fail
  refine Hc.out.mono ?_
  rintro e w5 ⟨D, q, rfl, hg5, ho5, hq⟩
  obtain rfl : q = K := hq (by first | rfl | trivial)
  clear hmk Hc hq
  have hG5 := gb_trans hG3 (gb_trans hg4 hg5)
  have hP5 := Piles.keep0 hP3 (gb_trans hg4 hg5)
  have hI5 : Ints w5 w4.heap.size D q q (fCounts (List.replicate q false) ps) := Sl.own ho5
  clear hg4 hg5 hP3 hG3 ho5
  go_wp2
  go_loopw [11] (fun i wr => ∃ k : Nat, k ≤ q ∧ i = .int .i64 k ∧ w5.grownBy wr none) (fun i _ => q - (intOf i).toNat)
  case atStart => exact ⟨0, Nat.zero_le _, rfl, gb_refl _ _⟩
  case round =>
    obtain ⟨k, hk, rfl, hgr⟩ := hrel
    rename World => wr
    by_cases hlt : k < q
    · have hk' : (k : Int) < (q : Int) := by omega
      have hk0 : (0 : Int) ≤ (k : Int) := by omega
      obtain ⟨b, off, F, rfl, hF, hcell⟩ := Ints.at_ (hI5.keep0 hgr) hlt
      have hPr := Piles.keep0 hP5 hgr
      obtain ⟨hF0, hF1⟩ := hFb.out F (List.mem_of_getElem? hF.out)
      have hcF : Hid (cAt (fCounts (List.replicate q false) ps) (k : Int) = F) := Lib.hid (by unfold cAt; rw [Int.toNat_natCast, List.getD_eq_getElem?_getD, hF.out]; rfl)
      have hw2 : IntKind.i64.wrap (2 * F) = 2 * F := IntWalk.i64_in _ (by omega)
      obtain ⟨T, hT⟩ : ∃ T, sumPl ps = T := ⟨_, rfl⟩
      have HT : Hid (pTotal ps = T) := Lib.hid (by rw [htot.out, hT])
      have HcT := Lib.hid (fun (z : World) (hz : wr.grownBy z none) => c_impl_PilesTotal _ A N c ps z (Piles.keep0 hPr hz) Hs.out)
      by_cases hmaj : T < 2 * F
      · obtain ⟨hVk, hag⟩ := hcon.out k hlt (by rw [hT, hcF.out]; exact hmaj)
        have Hag := Lib.hid hag
        have HcA := Lib.hid (fun (z : World) (hz : wr.grownBy z none) => c_impl_ContestAgrees _ A N c ps (q : Int) (S : Int) z (Piles.keep0 hPr hz) Hs.out)
        have hne : ((k : Int) != (k : Int)) = false := by simp
        have hdd : decide (T < 2 * F) = true := by simpa using hmaj
        subst hVk
        clear hT hag hF
        go_wp2_with fail
        refine wp_known wr [.slice (some ⟨b, off, none⟩) q q, .int .i64 k, .pointer (some ⟨b, off + k, none⟩), .int .i64 F, .int .i64 (2 * F), .slice A N c, .int .i64 T, .bool true, .bool true, .int .i64 k, .int .i64 k, .bool false, .bool false, .slice A N c, .int .i64 q, .int .i64 S, .bool true, .bool false, .bool false, .bool false] (gb_refl _ _) (by kernel_rfl) (by kernel_rfl) ?_ ?_
        · refine ⟨?_, ?_, ?_, ?_, ?_, ?_, ?_, ?_, ?_, ?_, ?_, ?_, ?_, ?_, ?_, ?_, ?_, ?_, ?_, ?_, trivial⟩
          all_goals
            intro nn u z hn hC hp
            simp [flowPreds, Region.binds, fKnown] at hp
            have n0 := gb_cell hC hcell (by simp)
            go_simp
          all_goals try exact ⟨gb_refl _ _, rfl⟩
          · refine (HcT.out z hC).mono ?_
            rintro e y ⟨rfl, hg⟩
            exact ⟨_, rfl, hg, by rw [HT.out]; rfl⟩
          · refine (HcA.out z hC).mono ?_
            rintro e y ⟨rfl, hg⟩
            exact ⟨_, rfl, hg, by rw [Hag.out]; rfl⟩
        · intro u z hC hp'
          have e19 : u 19 = .bool false := hp' 19 (by decide)
          clear HcT HcA
          go_simp
          go_wp2
          go_roundw
          case rel => exact ⟨k + 1, by omega, by go_num, gb_trans hgr hC⟩
          case measure => simp [intOf]; omega
      · have hdd : decide (T < 2 * F) = false := by simpa using hmaj
        clear hT hF
        go_wp2_with fail
        refine wp_known wr [.slice (some ⟨b, off, none⟩) q q, .int .i64 k, .pointer (some ⟨b, off + k, none⟩), .int .i64 F, .int .i64 (2 * F), .slice A N c, .int .i64 T, .bool false, .bool false, undef, undef, undef, undef, undef, undef, undef, undef, undef, undef, .bool false] (gb_refl _ _) (by kernel_rfl) (by kernel_rfl) ?_ ?_
        · refine ⟨?_, ?_, ?_, ?_, ?_, ?_, ?_, ?_, ?_, ?_, ?_, ?_, ?_, ?_, ?_, ?_, ?_, ?_, ?_, ?_, trivial⟩
          all_goals
            intro nn u z hn hC hp
            simp [flowPreds, Region.binds, fKnown] at hp
            have n0 := gb_cell hC hcell (by simp)
            go_simp
          all_goals try exact ⟨gb_refl _ _, rfl⟩
          · refine (HcT.out z hC).mono ?_
            rintro e y ⟨rfl, hg⟩
            exact ⟨_, rfl, hg, by rw [HT.out]; rfl⟩
        · intro u z hC hp'
          have e19 : u 19 = .bool false := hp' 19 (by decide)
          clear HcT
          go_simp
          go_wp2
          go_roundw
          case rel => exact ⟨k + 1, by omega, by go_num, gb_trans hgr hC⟩
          case measure => simp [intOf]; omega
    · obtain rfl : k = q := by omega
      go_wp2
      go_ret
      exact ⟨rfl, gb_below (gb_trans hG5 hgr)⟩
end Go.Proofs.Ytipnalfkpalieaa.lawFnContestMajority
