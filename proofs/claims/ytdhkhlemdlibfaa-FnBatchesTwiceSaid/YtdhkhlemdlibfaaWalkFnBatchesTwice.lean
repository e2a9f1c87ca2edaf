/-
  The walk of the law FnBatchesTwice: merging again changes nothing. Its first part is printed by wip/mk_merge_walks.py.
-/
import Derived.Test.YtdhkhlemdlibfaaDrawMerge
namespace Go.Proofs.Ytdhkhlemdlibfaa.lawFnBatchesTwice
open Go.RowKit
set_option linter.unusedVariables false

set_option maxRecDepth 100000 in
set_option maxHeartbeats 4000000 in
theorem walk (a0 : Option Addr) (len0 cap0 : Nat) (w : World) (c0 : CodeArg w a0 len0 cap0) :
    Calls Try.prog 4 #[.slice a0 len0 cap0] w fun e w' => e = .returned (.bool true) ∧ Below w.heap.size w w' := by
  by_cases h0 : 1048576 < len0
  · go_enter Try.func4, Try.ntmps4
    go_wp2
    go_ret
    exact ⟨rfl, Below.refl _ _⟩
  go_enter Try.func4, Try.ntmps4
  go_wp2_with fail
  refine (c_DrawBatchesMerge _ _ _ _ c0).mono ?_
  rintro e w1 ⟨A1, d1, a, A2, d2, b, rfl, hb1, hb2, hl1, hl2, hs1, hs2, hg1⟩
  have Ht1 : Hid (∀ x ∈ a, ∀ p ∈ x.2.2, p.1.size ≤ 2000000) := Lib.hid (fun x hx p hp => by have := (hs1 x hx).2 p hp; omega)
  have Ht2 : Hid (∀ x ∈ b, ∀ p ∈ x.2.2, p.1.size ≤ 2000000) := Lib.hid (fun x hx p hp => by have := (hs2 x hx).2 p hp; omega)
  obtain ⟨n, hn⟩ : ∃ n, a.length = n := ⟨_, rfl⟩
  obtain ⟨m, hm⟩ : ∃ m, b.length = m := ⟨_, rfl⟩
  have Hn := Lib.hid hn
  have Hm := Lib.hid hm
  rw [hn] at hb1 hl1
  rw [hm] at hb2 hl2
  rw [hn, hm]
  have Htv := Lib.hid (bmRes_size Ht1.out Ht2.out)
  have hvl := bmRes_len a b
  obtain ⟨V, hV⟩ : ∃ V, bmRes a b = V := ⟨_, rfl⟩
  have HV := Lib.hid hV
  rw [hV] at Htv hvl
  obtain ⟨O, hO⟩ : ∃ O, bmOK a b = O := ⟨_, rfl⟩
  have HO := Lib.hid hO
  have hdV : decide (V = V) = true := by simp
  have hOO : (O != O) = false := by simp
  have hOO2 : (O == O) = true := by simp
  clear hn hm hs1 hs2 hV hO c0
  go_wp2_with fail
  refine (c_impl_BatchesMerge _ _ _ _ _ _ _ _ a b _ hb1 hb2 Ht1.out Ht2.out).mono ?_
  rintro e w2 ⟨D2, q, e2, s2, rfl, hg2, ho2⟩
  rw [HV.out] at ho2
  rw [HO.out]
  have hG2 := gb_trans hg1 hg2
  have hql : V.length = q := ho2.xlen
  have hv2 := ho2.recs
  have hb1_2 := Recs.keep0 hb1 hg2
  have hb2_2 := Recs.keep0 hb2 hg2
  clear ho2
  go_wp2_with fail
  refine (c_spec_BatchesMerge _ _ _ _ _ _ _ _ a b _ hb1_2 hb2_2 (by omega) (by omega) Ht1.out Ht2.out).mono ?_
  rintro e w3 ⟨D3, q3, e3, s3, rfl, hg3, ho3⟩
  rw [HV.out] at ho3
  rw [HO.out]
  have hG3 := gb_trans hG2 hg3
  obtain rfl : q3 = q := by rw [← ho3.xlen, hql]
  have hv3 := ho3.recs
  have hv2_3 := Recs.keep0 hv2 hg3
  have hb1_3 := Recs.keep0 hb1_2 hg3
  have hb2_3 := Recs.keep0 hb2_2 hg3
  clear ho3 hb1 hb2 hb1_2 hb2_2 hv2
  go_wp2_with fail
  refine (c_sameBatches _ _ _ _ _ _ _ _ V V _ hv2_3 hv3).mono ?_
  rintro e w4 ⟨rfl, hg4⟩
  have hG4 := gb_trans hG3 hg4
  have hv2_4 := Recs.keep0 hv2_3 hg4
  have hv3_4 := Recs.keep0 hv3 hg4
  have hb1_4 := Recs.keep0 hb1_3 hg4
  have hb2_4 := Recs.keep0 hb2_3 hg4
  have hq8 : q3 ≤ 8 := by omega
  have Hql := Lib.hid hql
  clear hv2_3 hv3 hb1_3 hb2_3 hg2 hg3 hg4 hql
  cases O with
  | false =>
    go_wp2_with fail
    refine (c_sameBatches _ _ _ _ _ _ _ _ V V _ hv2_4 hv3_4).mono ?_
    rintro e w5 ⟨rfl, hg5⟩
    go_wp2
    go_ret
    exact ⟨rfl, gb_below (gb_trans hG4 hg5)⟩
  | true =>
    obtain ⟨hV1, hV2, hAa, hAb, hag⟩ := bm_good HO.out
    have Hgood : Hid (V = mgB a b) := Lib.hid (HV.out.symm.trans hV1)
    have Hval : Hid (batchesOK V = true) := Lib.hid (by rw [Hgood.out]; exact hV2)
    have Haa := Lib.hid hAa
    have Hab := Lib.hid hAb
    have Hag := Lib.hid hag
    clear hV1 hV2 hAa hAb hag hv3_4
    have L1 := bm_left HO.out ((bmOK_iff a b).1 HO.out).1 (fun x hx => mgB_old hx)
    have L2 := bm_left HO.out ((bmOK_iff a b).1 HO.out).2.1 (fun x hx => mgB_new Hab.out Hag.out hx)
    have L3 := bm_left HO.out (by rw [← Hgood.out]; exact Hval.out) (fun x hx => hx)
    have L4 := bm_turn L2.1
    rw [L2.2] at L4
    rw [← Hgood.out] at L1 L2 L3 L4
    have P1 := Lib.hid L1.1
    have Q1 := Lib.hid L1.2
    have P2 := Lib.hid L4.1
    have Q2 := Lib.hid L4.2
    have P3 := Lib.hid L3.1
    have Q3 := Lib.hid L3.2
    clear L1 L2 L3 L4
    go_wp2_with fail
    refine (c_impl_BatchesMerge _ _ _ _ _ _ _ _ V a _ hv2_4 hb1_4 Htv.out Ht1.out).mono ?_
    rintro e w5 ⟨D5, q5, e5, s5, rfl, hg5, ho5⟩
    rw [Q1.out] at ho5
    rw [P1.out]
    have hG5 := gb_trans hG4 hg5
    have hv5 := ho5.recs
    clear ho5
    have hv2_5 := Recs.keep0 hv2_4 hg5
    have hb2_5 := Recs.keep0 hb2_4 hg5
    go_wp2_with fail
    refine (c_impl_BatchesMerge _ _ _ _ _ _ _ _ b V _ hb2_5 hv2_5 Ht2.out Htv.out).mono ?_
    rintro e w6 ⟨D6, q6, e6, s6, rfl, hg6, ho6⟩
    rw [Q2.out] at ho6
    rw [P2.out]
    have hG6 := gb_trans hG5 hg6
    have hv6 := ho6.recs
    clear ho6
    have hv2_6 := Recs.keep0 hv2_5 hg6
    have hv5_6 := Recs.keep0 hv5 hg6
    go_wp2_with fail
    refine (c_impl_BatchesMerge _ _ _ _ _ _ _ _ V V _ hv2_6 hv2_6 Htv.out Htv.out).mono ?_
    rintro e w7 ⟨D7, q7, e7, s7, rfl, hg7, ho7⟩
    rw [Q3.out] at ho7
    rw [P3.out]
    have hG7 := gb_trans hG6 hg7
    have hv7 := ho7.recs
    clear ho7
    have hv2_7 := Recs.keep0 hv2_6 hg7
    have hv5_7 := Recs.keep0 hv5_6 hg7
    have hv6_7 := Recs.keep0 hv6 hg7
    clear hv2_4 hb1_4 hb2_4 hv2_5 hb2_5 hv2_6 hv5 hv5_6 hv6
    go_wp2_with fail
    refine (c_sameBatches _ _ _ _ _ _ _ _ V V _ hv5_7 hv2_7).mono ?_
    rintro e w8 ⟨rfl, hg8⟩
    have hG8 := gb_trans hG7 hg8
    have hv2_8 := Recs.keep0 hv2_7 hg8
    have hv6_8 := Recs.keep0 hv6_7 hg8
    have hv7_8 := Recs.keep0 hv7 hg8
    go_wp2_with fail
    refine (c_sameBatches _ _ _ _ _ _ _ _ V V _ hv6_8 hv2_8).mono ?_
    rintro e w9 ⟨rfl, hg9⟩
    have hG9 := gb_trans hG8 hg9
    have hv2_9 := Recs.keep0 hv2_8 hg9
    have hv7_9 := Recs.keep0 hv7_8 hg9
    go_wp2_with fail
    refine (c_sameBatches _ _ _ _ _ _ _ _ V V _ hv7_9 hv2_9).mono ?_
    rintro e w10 ⟨rfl, hg10⟩
    go_wp2
    go_ret
    exact ⟨rfl, gb_below (gb_trans hG9 hg10)⟩
end Go.Proofs.Ytdhkhlemdlibfaa.lawFnBatchesTwice
