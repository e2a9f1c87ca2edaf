/-
  The walk of the law FnBatchesLiveMore: further batches bring none back. Its first part is printed by wip/mk_merge_walks.py.
-/
import Derived.Test.YtdhkhlemdlibfaaDrawMerge
import Derived.Test.YtdhkhlemdlibfaaBatchesLive
namespace Go.Proofs.Ytdhkhlemdlibfaa.lawFnBatchesLiveMore
open Go.RowKit
set_option linter.unusedVariables false

theorem live_more {a v : List Bt} {id : Int} (hs : ∀ x ∈ a, x ∈ v) (h : id ∈ liveIds v) (ha : hasB a id = true) : memI (liveIds a) id = true := by
  unfold hasB at ha
  obtain ⟨x, hx, he⟩ := List.any_eq_true.1 ha
  have he : x.1 = id := by simpa using he
  obtain ⟨y, hy, hyi⟩ := List.mem_map.1 h
  have hy2 := (List.mem_filter.1 hy).2
  rw [hyi] at hy2
  have hno : overB a id = false := by
    cases e : overB a id with
    | false => rfl
    | true =>
      obtain ⟨z, hz, hzo⟩ := List.any_eq_true.1 e
      have : overB v id = true := List.any_eq_true.2 ⟨z, hs z hz, hzo⟩
      rw [this] at hy2
      cases hy2
  unfold memI
  exact List.any_eq_true.2 ⟨id, List.mem_map.2 ⟨x, List.mem_filter.2 ⟨hx, by rw [he, hno]; rfl⟩, he⟩, by simp⟩

set_option maxRecDepth 100000 in
set_option maxHeartbeats 4000000 in
theorem walk (a0 : Option Addr) (len0 cap0 : Nat) (w : World) (c0 : CodeArg w a0 len0 cap0) :
    Calls Try.prog 7 #[.slice a0 len0 cap0] w fun e w' => e = .returned (.bool true) ∧ Below w.heap.size w w' := by
  by_cases h0 : 1048576 < len0
  · go_enter Try.func7, Try.ntmps7
    go_wp2
    go_ret
    exact ⟨rfl, Below.refl _ _⟩
  go_enter Try.func7, Try.ntmps7
  go_wp2_with fail
  refine (c_DrawBatchesMerge _ _ _ _ c0).mono ?_
  rintro e w1 ⟨A1, d1, a, A2, d2, b, rfl, hb1, hb2, hl1, hl2, hs1, hs2, hg1⟩
  have Ht1 : Hid (∀ x ∈ a, ∀ p ∈ x.2.2, p.1.size ≤ 2000000) := Lib.hid (fun x hx p hp => by have := (hs1 x hx).2 p hp; omega)
  have Ht2 : Hid (∀ x ∈ b, ∀ p ∈ x.2.2, p.1.size ≤ 2000000) := Lib.hid (fun x hx p hp => by have := (hs2 x hx).2 p hp; omega)
  obtain ⟨n, hn⟩ : ∃ n, a.length = n := ⟨_, rfl⟩
  obtain ⟨m, hm⟩ : ∃ m, b.length = m := ⟨_, rfl⟩
  have Hn := Lib.hid hn
  have Hm := Lib.hid hm
  rw [hn] at hb1 hl1
  rw [hm] at hb2 hl2
  rw [hn, hm]
  have Htv := Lib.hid (bmRes_size Ht1.out Ht2.out)
  have hvl := bmRes_len a b
  obtain ⟨V, hV⟩ : ∃ V, bmRes a b = V := ⟨_, rfl⟩
  have HV := Lib.hid hV
  rw [hV] at Htv hvl
  obtain ⟨O, hO⟩ : ∃ O, bmOK a b = O := ⟨_, rfl⟩
  have HO := Lib.hid hO
  have hdV : decide (V = V) = true := by simp
  have hOO : (O != O) = false := by simp
  have hOO2 : (O == O) = true := by simp
  clear hn hm hs1 hs2 hV hO c0
  go_wp2_with fail
  refine (c_impl_BatchesMerge _ _ _ _ _ _ _ _ a b _ hb1 hb2 Ht1.out Ht2.out).mono ?_
  rintro e w2 ⟨D2, q, e2, s2, rfl, hg2, ho2⟩
  rw [HV.out] at ho2
  rw [HO.out]
  have hG2 := gb_trans hg1 hg2
  have hql : V.length = q := ho2.xlen
  have hv2 := ho2.recs
  have hb1_2 := Recs.keep0 hb1 hg2
  have hb2_2 := Recs.keep0 hb2 hg2
  clear ho2
  go_wp2_with fail
  refine (c_spec_BatchesMerge _ _ _ _ _ _ _ _ a b _ hb1_2 hb2_2 (by omega) (by omega) Ht1.out Ht2.out).mono ?_
  rintro e w3 ⟨D3, q3, e3, s3, rfl, hg3, ho3⟩
  rw [HV.out] at ho3
  rw [HO.out]
  have hG3 := gb_trans hG2 hg3
  obtain rfl : q3 = q := by rw [← ho3.xlen, hql]
  have hv3 := ho3.recs
  have hv2_3 := Recs.keep0 hv2 hg3
  have hb1_3 := Recs.keep0 hb1_2 hg3
  have hb2_3 := Recs.keep0 hb2_2 hg3
  clear ho3 hb1 hb2 hb1_2 hb2_2 hv2
  go_wp2_with fail
  refine (c_sameBatches _ _ _ _ _ _ _ _ V V _ hv2_3 hv3).mono ?_
  rintro e w4 ⟨rfl, hg4⟩
  have hG4 := gb_trans hG3 hg4
  have hv2_4 := Recs.keep0 hv2_3 hg4
  have hv3_4 := Recs.keep0 hv3 hg4
  have hb1_4 := Recs.keep0 hb1_3 hg4
  have hb2_4 := Recs.keep0 hb2_3 hg4
  have hq8 : q3 ≤ 8 := by omega
  have Hql := Lib.hid hql
  clear hv2_3 hv3 hb1_3 hb2_3 hg2 hg3 hg4 hql
  cases O with
  | false =>
    go_wp2_with fail
    refine (c_sameBatches _ _ _ _ _ _ _ _ V V _ hv2_4 hv3_4).mono ?_
    rintro e w5 ⟨rfl, hg5⟩
    go_wp2
    go_ret
    exact ⟨rfl, gb_below (gb_trans hG4 hg5)⟩
  | true =>
    obtain ⟨hV1, hV2, hAa, hAb, hag⟩ := bm_good HO.out
    have Hgood : Hid (V = mgB a b) := Lib.hid (HV.out.symm.trans hV1)
    have Hval : Hid (batchesOK V = true) := Lib.hid (by rw [Hgood.out]; exact hV2)
    have Haa := Lib.hid hAa
    have Hab := Lib.hid hAb
    have Hag := Lib.hid hag
    clear hV1 hV2 hAa hAb hag hv3_4
    have HLv : Hid (liveRes V = liveIds V) := Lib.hid (by rw [liveRes, Hval.out, if_pos rfl])
    have HLa : Hid (liveRes a = liveIds a) := Lib.hid (by rw [liveRes, ((bmOK_iff a b).1 HO.out).1, if_pos rfl])
    go_wp2_with fail
    refine (c_impl_BatchesLive _ _ _ _ V _ (hv2_4.mono (Nat.zero_le _)) (Nat.zero_le _) (by omega) Htv.out).mono ?_
    rintro e w5 ⟨E5, q5, e5, rfl, hg5, ho5⟩
    rw [HLv.out] at ho5
    have hG5 := gb_trans hG4 hg5
    have hb1_5 := Recs.keep0 hb1_4 hg5
    go_wp2_with fail
    refine (c_impl_BatchesLive _ _ _ _ a _ hb1_5 hG5.size (by omega) Ht1.out).mono ?_
    rintro e w6 ⟨E6, q6, e6, rfl, hg6, ho6⟩
    rw [HLa.out] at ho6
    have hG6 := gb_trans hG5 hg6
    have hb1_6 := Recs.keep0 hb1_5 hg6
    have hI5 : Ints w6 w4.heap.size E5 q5 e5 (liveIds V) := Sl.own (own_below ho5 hg6)
    have hI6 : Ints w6 w5.heap.size E6 q6 e6 (liveIds a) := Sl.own ho6
    have hq5 : q5 ≤ 8 := by
      have h1 := hI5.len
      rw [liveIds, List.length_map] at h1
      have h2 : (live V).length ≤ V.length := List.length_filter_le _ _
      have := Hql.out
      omega
    have hlc5 := hI5.le
    have hcm5 := hI5.max
    clear ho5 ho6 hv2_4 hb1_4 hb2_4 hb1_5
    go_wp2
    go_loopw [11] (fun i wr => ∃ k : Nat, k ≤ q5 ∧ i = .int .i64 k ∧ w6.grownBy wr none) (fun i _ => q5 - (intOf i).toNat)
    case atStart => exact ⟨0, Nat.zero_le _, rfl, gb_refl _ _⟩
    case round =>
      obtain ⟨k, hk, rfl, hG⟩ := hrel
      rename World => wr
      by_cases hlt : k < q5
      · obtain ⟨bb, off, z, rfl, hz, m0⟩ := Ints.at_ (Sl.keep0 hI5 hG) hlt
        have hk' : (k : Int) < (q5 : Int) := by omega
        have hk0 : (0 : Int) ≤ (k : Int) := by omega
        obtain ⟨E1, hE1⟩ : ∃ E1, hasB a z = E1 := ⟨_, rfl⟩
        have HE1 := Lib.hid hE1
        clear hE1
        go_wp2_with fail
        refine (c_hasBatch _ _ _ _ a z _ (Recs.keep0 hb1_6 hG)).mono ?_
        rintro e w7 ⟨rfl, rfl⟩
        rw [HE1.out]
        cases E1 with
        | false =>
          go_wp2
          go_roundw
          case rel => exact ⟨k + 1, by omega, by go_num, hG⟩
          case measure => simp [intOf]; omega
        | true =>
          have HE2 : Hid (memI (liveIds a) z = true) := Lib.hid (live_more (fun x hx => by rw [Hgood.out]; exact mgB_old hx) (List.mem_of_getElem? hz.out) HE1.out)
          go_wp2_with fail
          refine (c_hasInt _ _ _ _ (liveIds a) z _ (Sl.keep0 hI6 hG)).mono ?_
          rintro e w7 ⟨rfl, rfl⟩
          rw [HE2.out]
          go_wp2
          go_roundw
          case rel => exact ⟨k + 1, by omega, by go_num, hG⟩
          case measure => simp [intOf]; omega
      · obtain rfl : k = q5 := by omega
        go_wp2
        go_ret
        exact ⟨rfl, gb_below (gb_trans hG6 hG)⟩
end Go.Proofs.Ytdhkhlemdlibfaa.lawFnBatchesLiveMore
