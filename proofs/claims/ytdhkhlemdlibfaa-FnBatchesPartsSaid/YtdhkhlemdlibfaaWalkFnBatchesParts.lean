/-
  The walk of the law FnBatchesParts: it does not matter in which parts returns come. Its first part is printed by wip/mk_merge_walks.py.
-/
import Derived.Test.YtdhkhlemdlibfaaDrawMerge
namespace Go.Proofs.Ytdhkhlemdlibfaa.lawFnBatchesParts
open Go.RowKit
set_option linter.unusedVariables false

set_option maxRecDepth 100000 in
set_option maxHeartbeats 4000000 in
theorem walk (a0 : Option Addr) (len0 cap0 : Nat) (a1 : Option Addr) (len1 cap1 : Nat) (w : World) (c0 : CodeArg w a0 len0 cap0) (c1 : CodeArg w a1 len1 cap1) :
    Calls Try.prog 3 #[.slice a0 len0 cap0, .slice a1 len1 cap1] w fun e w' => e = .returned (.bool true) ∧ Below w.heap.size w w' := by
  by_cases h0 : 1048576 < len0
  · go_enter Try.func3, Try.ntmps3
    go_wp2
    go_ret
    exact ⟨rfl, Below.refl _ _⟩
  by_cases h1 : 1048576 < len1
  · go_enter Try.func3, Try.ntmps3
    go_wp2
    go_ret
    exact ⟨rfl, Below.refl _ _⟩
  go_enter Try.func3, Try.ntmps3
  go_wp2_with fail
  refine (c_DrawBatchesMerge _ _ _ _ c0).mono ?_
  rintro e w1 ⟨A1, d1, a, A2, d2, b, rfl, hb1, hb2, hl1, hl2, hs1, hs2, hg1⟩
  have Ht1 : Hid (∀ x ∈ a, ∀ p ∈ x.2.2, p.1.size ≤ 2000000) := Lib.hid (fun x hx p hp => by have := (hs1 x hx).2 p hp; omega)
  have Ht2 : Hid (∀ x ∈ b, ∀ p ∈ x.2.2, p.1.size ≤ 2000000) := Lib.hid (fun x hx p hp => by have := (hs2 x hx).2 p hp; omega)
  obtain ⟨n, hn⟩ : ∃ n, a.length = n := ⟨_, rfl⟩
  obtain ⟨m, hm⟩ : ∃ m, b.length = m := ⟨_, rfl⟩
  have Hn := Lib.hid hn
  have Hm := Lib.hid hm
  rw [hn] at hb1 hl1
  rw [hm] at hb2 hl2
  rw [hn, hm]
  have Htv := Lib.hid (bmRes_size Ht1.out Ht2.out)
  have hvl := bmRes_len a b
  obtain ⟨V, hV⟩ : ∃ V, bmRes a b = V := ⟨_, rfl⟩
  have HV := Lib.hid hV
  rw [hV] at Htv hvl
  obtain ⟨O, hO⟩ : ∃ O, bmOK a b = O := ⟨_, rfl⟩
  have HO := Lib.hid hO
  have hdV : decide (V = V) = true := by simp
  have hOO : (O != O) = false := by simp
  have hOO2 : (O == O) = true := by simp
  clear hn hm hs1 hs2 hV hO c0
  go_wp2_with fail
  refine (c_impl_BatchesMerge _ _ _ _ _ _ _ _ a b _ hb1 hb2 Ht1.out Ht2.out).mono ?_
  rintro e w2 ⟨D2, q, e2, s2, rfl, hg2, ho2⟩
  rw [HV.out] at ho2
  rw [HO.out]
  have hG2 := gb_trans hg1 hg2
  have hql : V.length = q := ho2.xlen
  have hv2 := ho2.recs
  have hb1_2 := Recs.keep0 hb1 hg2
  have hb2_2 := Recs.keep0 hb2 hg2
  clear ho2
  go_wp2_with fail
  refine (c_spec_BatchesMerge _ _ _ _ _ _ _ _ a b _ hb1_2 hb2_2 (by omega) (by omega) Ht1.out Ht2.out).mono ?_
  rintro e w3 ⟨D3, q3, e3, s3, rfl, hg3, ho3⟩
  rw [HV.out] at ho3
  rw [HO.out]
  have hG3 := gb_trans hG2 hg3
  obtain rfl : q3 = q := by rw [← ho3.xlen, hql]
  have hv3 := ho3.recs
  have hv2_3 := Recs.keep0 hv2 hg3
  have hb1_3 := Recs.keep0 hb1_2 hg3
  have hb2_3 := Recs.keep0 hb2_2 hg3
  clear ho3 hb1 hb2 hb1_2 hb2_2 hv2
  go_wp2_with fail
  refine (c_sameBatches _ _ _ _ _ _ _ _ V V _ hv2_3 hv3).mono ?_
  rintro e w4 ⟨rfl, hg4⟩
  have hG4 := gb_trans hG3 hg4
  have hv2_4 := Recs.keep0 hv2_3 hg4
  have hv3_4 := Recs.keep0 hv3 hg4
  have hb1_4 := Recs.keep0 hb1_3 hg4
  have hb2_4 := Recs.keep0 hb2_3 hg4
  have hq8 : q3 ≤ 8 := by omega
  have Hql := Lib.hid hql
  clear hv2_3 hv3 hb1_3 hb2_3 hg2 hg3 hg4 hql
  cases O with
  | false =>
    go_wp2_with fail
    refine (c_sameBatches _ _ _ _ _ _ _ _ V V _ hv2_4 hv3_4).mono ?_
    rintro e w5 ⟨rfl, hg5⟩
    go_wp2
    go_ret
    exact ⟨rfl, gb_below (gb_trans hG4 hg5)⟩
  | true =>
    obtain ⟨hV1, hV2, hAa, hAb, hag⟩ := bm_good HO.out
    have Hgood : Hid (V = mgB a b) := Lib.hid (HV.out.symm.trans hV1)
    have Hval : Hid (batchesOK V = true) := Lib.hid (by rw [Hgood.out]; exact hV2)
    have Haa := Lib.hid hAa
    have Hab := Lib.hid hAb
    have Hag := Lib.hid hag
    clear hV1 hV2 hAa hAb hag hv3_4
    obtain ⟨k, hk⟩ : ∃ k, len1 % (m + 1) = k := ⟨_, rfl⟩
    have hkm : k ≤ m := by have := Nat.mod_lt len1 (show 0 < m + 1 by omega); omega
    have hrem : (len1 : Int).tmod ((m : Int) + 1) = (k : Int) := by
      rw [Int.tmod_eq_emod_of_nonneg (by omega), ← hk]
      push_cast
      rfl
    have hn0' : ¬ (m : Int) + 1 = 0 := by omega
    have hnb : (((m : Int) + 1) == 0) = false := by simp; omega
    have hwm : IntKind.i64.wrap ((m : Int) + 1) = (m : Int) + 1 := IntWalk.i64_in _ (by omega)
    have hlc := hb2_4.le
    have hcm := hb2_4.max
    have hkn' : (k : Int) ≤ (m : Int) := by omega
    have hkc : (k : Int) ≤ (d2 : Int) := by omega
    have hk0 : (0 : Int) ≤ (k : Int) := by omega
    clear hk
    obtain ⟨L1, L2, L3, L4⟩ := bm_parts k HO.out
    rw [← Hgood.out] at L4
    have P1 := Lib.hid L1
    have Q1 := Lib.hid L3
    obtain ⟨X, hX⟩ : ∃ X, mgB a (b.take k) = X := ⟨_, rfl⟩
    rw [hX] at L2 L4
    have P2 := Lib.hid L2
    have Q2 := Lib.hid L4
    have Htk : Hid (∀ x ∈ b.take k, ∀ p ∈ x.2.2, p.1.size ≤ 2000000) := Lib.hid (fun x hx => Ht2.out x (List.take_subset _ _ hx))
    have Htd : Hid (∀ x ∈ b.drop k, ∀ p ∈ x.2.2, p.1.size ≤ 2000000) := Lib.hid (fun x hx => Ht2.out x (List.drop_subset _ _ hx))
    have HtX : Hid (∀ x ∈ X, ∀ p ∈ x.2.2, p.1.size ≤ 2000000) := Lib.hid (by rw [← hX, ← Q1.out]; exact bmRes_size Ht1.out Htk.out)
    have HX := Lib.hid hX
    clear L1 L2 L3 L4 hX
    have hT := Recs.take hb2_4 hkm
    have hD := Recs.drop hb2_4 hkm
    by_cases hck : d2 = k
    · obtain rfl : k = d2 := hck.symm
      obtain rfl : k = m := by omega
      rw [if_pos rfl, Nat.sub_self] at hD
      clear hkm hkn' hkc hlc
      go_wp2_with fail
      refine (c_impl_BatchesMerge _ _ _ _ _ _ _ _ a (b.take k) _ hb1_4 hT Ht1.out Htk.out).mono ?_
      rintro e w5 ⟨D5, q5, e5, s5, rfl, hg5, ho5⟩
      rw [Q1.out, HX.out] at ho5
      rw [P1.out]
      have hG5 := gb_trans hG4 hg5
      have hv5 := ho5.recs
      have hD5 := Recs.keep0 hD hg5
      have hv2_5 := Recs.keep0 hv2_4 hg5
      clear ho5
      go_wp2_with fail
      refine (c_impl_BatchesMerge _ _ _ _ _ _ _ _ X (b.drop k) _ hv5 hD5 HtX.out Htd.out).mono ?_
      rintro e w6 ⟨D6, q6, e6, s6, rfl, hg6, ho6⟩
      rw [Q2.out] at ho6
      rw [P2.out]
      have hG6 := gb_trans hG5 hg6
      have hv6 := ho6.recs
      have hv2_6 := Recs.keep0 hv2_5 hg6
      clear ho6
      go_wp2_with fail
      refine (c_sameBatches _ _ _ _ _ _ _ _ V V _ hv6 hv2_6).mono ?_
      rintro e w7 ⟨rfl, hg7⟩
      go_wp2
      go_ret
      exact ⟨rfl, gb_below (gb_trans hG6 hg7)⟩
    · rw [if_neg hck] at hD
      cases A2 with
      | none =>
        simp only [Option.map_none] at hD
        go_wp2_with fail
        refine (c_impl_BatchesMerge _ _ _ _ _ _ _ _ a (b.take k) _ hb1_4 hT Ht1.out Htk.out).mono ?_
        rintro e w5 ⟨D5, q5, e5, s5, rfl, hg5, ho5⟩
        rw [Q1.out, HX.out] at ho5
        rw [P1.out]
        have hG5 := gb_trans hG4 hg5
        have hv5 := ho5.recs
        have hD5 := Recs.keep0 hD hg5
        have hv2_5 := Recs.keep0 hv2_4 hg5
        clear ho5
        go_wp2_with fail
        refine (c_impl_BatchesMerge _ _ _ _ _ _ _ _ X (b.drop k) _ hv5 hD5 HtX.out Htd.out).mono ?_
        rintro e w6 ⟨D6, q6, e6, s6, rfl, hg6, ho6⟩
        rw [Q2.out] at ho6
        rw [P2.out]
        have hG6 := gb_trans hG5 hg6
        have hv6 := ho6.recs
        have hv2_6 := Recs.keep0 hv2_5 hg6
        clear ho6
        go_wp2_with fail
        refine (c_sameBatches _ _ _ _ _ _ _ _ V V _ hv6 hv2_6).mono ?_
        rintro e w7 ⟨rfl, hg7⟩
        go_wp2
        go_ret
        exact ⟨rfl, gb_below (gb_trans hG6 hg7)⟩
      | some aa =>
        simp only [Option.map_some] at hD
        go_wp2_with fail
        refine (c_impl_BatchesMerge _ _ _ _ _ _ _ _ a (b.take k) _ hb1_4 hT Ht1.out Htk.out).mono ?_
        rintro e w5 ⟨D5, q5, e5, s5, rfl, hg5, ho5⟩
        rw [Q1.out, HX.out] at ho5
        rw [P1.out]
        have hG5 := gb_trans hG4 hg5
        have hv5 := ho5.recs
        have hD5 := Recs.keep0 hD hg5
        have hv2_5 := Recs.keep0 hv2_4 hg5
        clear ho5
        go_wp2_with fail
        refine (c_impl_BatchesMerge _ _ _ _ _ _ _ _ X (b.drop k) _ hv5 hD5 HtX.out Htd.out).mono ?_
        rintro e w6 ⟨D6, q6, e6, s6, rfl, hg6, ho6⟩
        rw [Q2.out] at ho6
        rw [P2.out]
        have hG6 := gb_trans hG5 hg6
        have hv6 := ho6.recs
        have hv2_6 := Recs.keep0 hv2_5 hg6
        clear ho6
        go_wp2_with fail
        refine (c_sameBatches _ _ _ _ _ _ _ _ V V _ hv6 hv2_6).mono ?_
        rintro e w7 ⟨rfl, hg7⟩
        go_wp2
        go_ret
        exact ⟨rfl, gb_below (gb_trans hG6 hg7)⟩
end Go.Proofs.Ytdhkhlemdlibfaa.lawFnBatchesParts
