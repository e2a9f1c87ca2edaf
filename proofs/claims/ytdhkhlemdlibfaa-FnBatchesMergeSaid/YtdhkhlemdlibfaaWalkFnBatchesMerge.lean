/-
  The walk of the law FnBatchesMerge: merged returns have all batches. Its first part is printed by wip/mk_merge_walks.py.
-/
import Derived.Test.YtdhkhlemdlibfaaDrawMerge
import Derived.Test.YtdhkhlemdlibfaaBatchesLive
namespace Go.Proofs.Ytdhkhlemdlibfaa.lawFnBatchesMerge
open Go.RowKit
set_option linter.unusedVariables false

set_option maxRecDepth 100000 in
set_option maxHeartbeats 4000000 in
theorem walk (a0 : Option Addr) (len0 cap0 : Nat) (w : World) (c0 : CodeArg w a0 len0 cap0) :
    Calls Try.prog 5 #[.slice a0 len0 cap0] w fun e w' => e = .returned (.bool true) ∧ Below w.heap.size w w' := by
  by_cases h0 : 1048576 < len0
  · go_enter Try.func5, Try.ntmps5
    go_wp2
    go_ret
    exact ⟨rfl, Below.refl _ _⟩
  go_enter Try.func5, Try.ntmps5
  go_wp2_with fail
  refine (c_DrawBatchesMerge _ _ _ _ c0).mono ?_
  rintro e w1 ⟨A1, d1, a, A2, d2, b, rfl, hb1, hb2, hl1, hl2, hs1, hs2, hg1⟩
  have Ht1 : Hid (∀ x ∈ a, ∀ p ∈ x.2.2, p.1.size ≤ 2000000) := Lib.hid (fun x hx p hp => by have := (hs1 x hx).2 p hp; omega)
  have Ht2 : Hid (∀ x ∈ b, ∀ p ∈ x.2.2, p.1.size ≤ 2000000) := Lib.hid (fun x hx p hp => by have := (hs2 x hx).2 p hp; omega)
  obtain ⟨n, hn⟩ : ∃ n, a.length = n := ⟨_, rfl⟩
  obtain ⟨m, hm⟩ : ∃ m, b.length = m := ⟨_, rfl⟩
  have Hn := Lib.hid hn
  have Hm := Lib.hid hm
  rw [hn] at hb1 hl1
  rw [hm] at hb2 hl2
  rw [hn, hm]
  have Htv := Lib.hid (bmRes_size Ht1.out Ht2.out)
  have hvl := bmRes_len a b
  obtain ⟨V, hV⟩ : ∃ V, bmRes a b = V := ⟨_, rfl⟩
  have HV := Lib.hid hV
  rw [hV] at Htv hvl
  obtain ⟨O, hO⟩ : ∃ O, bmOK a b = O := ⟨_, rfl⟩
  have HO := Lib.hid hO
  have hdV : decide (V = V) = true := by simp
  have hOO : (O != O) = false := by simp
  have hOO2 : (O == O) = true := by simp
  clear hn hm hs1 hs2 hV hO c0
  go_wp2_with fail
  refine (c_impl_BatchesMerge _ _ _ _ _ _ _ _ a b _ hb1 hb2 Ht1.out Ht2.out).mono ?_
  rintro e w2 ⟨D2, q, e2, s2, rfl, hg2, ho2⟩
  rw [HV.out] at ho2
  rw [HO.out]
  have hG2 := gb_trans hg1 hg2
  have hql : V.length = q := ho2.xlen
  have hv2 := ho2.recs
  have hb1_2 := Recs.keep0 hb1 hg2
  have hb2_2 := Recs.keep0 hb2 hg2
  clear ho2
  go_wp2_with fail
  refine (c_spec_BatchesMerge _ _ _ _ _ _ _ _ a b _ hb1_2 hb2_2 (by omega) (by omega) Ht1.out Ht2.out).mono ?_
  rintro e w3 ⟨D3, q3, e3, s3, rfl, hg3, ho3⟩
  rw [HV.out] at ho3
  rw [HO.out]
  have hG3 := gb_trans hG2 hg3
  obtain rfl : q3 = q := by rw [← ho3.xlen, hql]
  have hv3 := ho3.recs
  have hv2_3 := Recs.keep0 hv2 hg3
  have hb1_3 := Recs.keep0 hb1_2 hg3
  have hb2_3 := Recs.keep0 hb2_2 hg3
  clear ho3 hb1 hb2 hb1_2 hb2_2 hv2
  go_wp2_with fail
  refine (c_sameBatches _ _ _ _ _ _ _ _ V V _ hv2_3 hv3).mono ?_
  rintro e w4 ⟨rfl, hg4⟩
  have hG4 := gb_trans hG3 hg4
  have hv2_4 := Recs.keep0 hv2_3 hg4
  have hv3_4 := Recs.keep0 hv3 hg4
  have hb1_4 := Recs.keep0 hb1_3 hg4
  have hb2_4 := Recs.keep0 hb2_3 hg4
  have hq8 : q3 ≤ 8 := by omega
  have Hql := Lib.hid hql
  clear hv2_3 hv3 hb1_3 hb2_3 hg2 hg3 hg4 hql
  cases O with
  | false =>
    go_wp2_with fail
    refine (c_sameBatches _ _ _ _ _ _ _ _ V V _ hv2_4 hv3_4).mono ?_
    rintro e w5 ⟨rfl, hg5⟩
    go_wp2
    go_ret
    exact ⟨rfl, gb_below (gb_trans hG4 hg5)⟩
  | true =>
    obtain ⟨hV1, hV2, hAa, hAb, hag⟩ := bm_good HO.out
    have Hgood : Hid (V = mgB a b) := Lib.hid (HV.out.symm.trans hV1)
    have Hval : Hid (batchesOK V = true) := Lib.hid (by rw [Hgood.out]; exact hV2)
    have Haa := Lib.hid hAa
    have Hab := Lib.hid hAb
    have Hag := Lib.hid hag
    clear hV1 hV2 hAa hAb hag hv3_4
    have L1 := bm_turn HO.out
    rw [HV.out] at L1
    have P1 := Lib.hid L1.1
    have Q1 := Lib.hid L1.2
    clear L1
    go_wp2_with fail
    refine (c_impl_BatchesMerge _ _ _ _ _ _ _ _ b a _ hb2_4 hb1_4 Ht2.out Ht1.out).mono ?_
    rintro e w5 ⟨D5, q5, e5, s5, rfl, hg5, ho5⟩
    rw [Q1.out] at ho5
    rw [P1.out]
    have hG5 := gb_trans hG4 hg5
    have hv5 := ho5.recs
    clear ho5
    have hv2_5 := Recs.keep0 hv2_4 hg5
    have hb1_5 := Recs.keep0 hb1_4 hg5
    have hb2_5 := Recs.keep0 hb2_4 hg5
    obtain rfl : q5 = q3 := by rw [← Hql.out, hv5.len]
    have hlcV := hv2_5.le
    have hcmV := hv2_5.max
    have hlcA := hb1_5.le
    have hcmA := hb1_5.max
    clear hv2_4 hb1_4 hb2_4
    go_wp2
    go_loopw [11] (fun i wr => ∃ k : Nat, k ≤ q5 ∧ i = .int .i64 k ∧ w5.grownBy wr none) (fun i _ => q5 - (intOf i).toNat)
    case atStart => exact ⟨0, Nat.zero_le _, rfl, gb_refl _ _⟩
    case round =>
      obtain ⟨k, hk, rfl, hG⟩ := hrel
      rename World => wr
      by_cases hlt : k < q5
      · obtain ⟨bb, off, i2, o2, ps, A', c', rfl, hp, hps, m0, m1, m2⟩ := Bats.at_ (Recs.keep0 hv2_5 hG) hlt
        have hk' : (k : Int) < (q5 : Int) := by omega
        have hk0 : (0 : Int) ≤ (k : Int) := by omega
        clear hps m1 m2
        obtain ⟨E1, hE1⟩ : ∃ E1, hasB a i2 = E1 := ⟨_, rfl⟩
        have HE1 := Lib.hid hE1
        clear hE1
        go_wp2_with fail
        refine (c_hasBatch _ _ _ _ a i2 _ (Recs.keep0 hb1_5 hG)).mono ?_
        rintro e w6 ⟨rfl, rfl⟩
        rw [HE1.out]
        cases E1 with
        | true =>
          go_wp2
          go_roundw
          case rel => exact ⟨k + 1, by omega, by go_num, hG⟩
          case measure => simp [intOf]; omega
        | false =>
          have HE2 : Hid (hasB b i2 = true) := Lib.hid (by
            have hm := List.mem_of_getElem? hp.out
            rw [Hgood.out] at hm
            rcases mgB_sub hm with h1 | h1
            · have h2 := hasB_mem h1
              simp only at h2
              rw [HE1.out] at h2
              cases h2
            · exact hasB_mem h1)
          go_wp2_with fail
          refine (c_hasBatch _ _ _ _ b i2 _ (Recs.keep0 hb2_5 hG)).mono ?_
          rintro e w6 ⟨rfl, rfl⟩
          rw [HE2.out]
          go_wp2
          go_roundw
          case rel => exact ⟨k + 1, by omega, by go_num, hG⟩
          case measure => simp [intOf]; omega
      · obtain rfl : k = q5 := by omega
        go_wp2
        go_loopw [12] (fun i wr => ∃ j : Nat, j ≤ n ∧ i = .int .i64 j ∧ w5.grownBy wr none) (fun i _ => n - (intOf i).toNat)
        case atStart => exact ⟨0, Nat.zero_le _, rfl, hG⟩
        case round =>
          obtain ⟨j, hj, rfl, hGj⟩ := hrel
          rename World => wj
          by_cases hjn : j < n
          · obtain ⟨bb, off, i2, o2, ps, A', c', rfl, hp, hps, m0, m1, m2⟩ := Bats.at_ (Recs.keep0 hb1_5 hGj) hjn
            have hk' : (j : Int) < (n : Int) := by omega
            have hk0 : (0 : Int) ≤ (j : Int) := by omega
            clear hps m1 m2
            have HE2 : Hid (hasB V i2 = true) := Lib.hid (by
              have hm := List.mem_of_getElem? hp.out
              have h1 : (i2, o2, ps) ∈ V := by rw [Hgood.out]; exact mgB_old hm
              exact hasB_mem h1)
            go_wp2_with fail
            refine (c_hasBatch _ _ _ _ V i2 _ (Recs.keep0 hv2_5 hGj)).mono ?_
            rintro e w6 ⟨rfl, rfl⟩
            rw [HE2.out]
            go_wp2
            go_roundw
            case rel => exact ⟨j + 1, by omega, by go_num, hGj⟩
            case measure => simp [intOf]; omega
          · obtain rfl : j = n := by omega
            have hfin : (k : Int) ≤ (j : Int) + (m : Int) := by
              have h1 := Hql.out
              have h2 := mgB_len a b
              rw [← Hgood.out, h1, Hn.out, Hm.out] at h2
              omega
            have hwr : IntKind.i64.wrap ((j : Int) + (m : Int)) = (j : Int) + (m : Int) := IntWalk.i64_in _ (by omega)
            go_wp2_with fail
            refine (c_sameBatches _ _ _ _ _ _ _ _ V V _ (Recs.keep0 hv5 hGj) (Recs.keep0 hv2_5 hGj)).mono ?_
            rintro e w7 ⟨rfl, hg7⟩
            have hG7 := gb_trans hGj hg7
            go_wp2_with fail
            refine (c_impl_BatchesValid _ _ _ _ V _ (Recs.keep0 hv2_5 hG7) Htv.out).mono ?_
            rintro e w8 ⟨rfl, hg8⟩
            rw [Hval.out]
            go_wp2
            go_ret
            exact ⟨rfl, gb_below (gb_trans hG5 (gb_trans hG7 hg8))⟩
end Go.Proofs.Ytdhkhlemdlibfaa.lawFnBatchesMerge
