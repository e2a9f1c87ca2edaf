/-
  The walk of the law FnBatchesChange: what changes is alike both ways, nothing from a list to itself, no less than the sums differ.
-/
import Derived.Test.YtbhchlnbhimcpaaChangeSum
namespace Go.Proofs.Ytbhchlnbhimcpaa.lawFnBatchesChange
open Go.RowKit
set_option linter.unusedVariables false

set_option maxRecDepth 100000 in
set_option maxHeartbeats 2000000 in
theorem walk (a0 : Option Addr) (len0 cap0 : Nat) (w : World) (c0 : CodeArg w a0 len0 cap0) :
    Calls Try.prog 14 #[.slice a0 len0 cap0] w fun e w' => e = .returned (.bool true) ∧ Below w.heap.size w w' := by
  by_cases h0 : 1048576 < len0
  · go_enter Try.func14, Try.ntmps14
    go_wp2
    go_ret
    exact ⟨rfl, Below.refl _ _⟩
  go_enter Try.func14, Try.ntmps14
  go_wp2_with fail
  refine (c_DrawBatchesChange _ _ _ _ c0).mono ?_
  rintro e w1 ⟨A1, c1, cs, A2, c2, bs, rfl, hb1, hb2, hl1, hl2, hs1, hs2, hg1⟩
  have Ht1 : Hid (∀ b ∈ cs, ∀ p ∈ b.2.2, p.1.size ≤ 2000000) := Lib.hid (fun b hb p hp => by have := (hs1 b hb).2 p hp; omega)
  have Hl1 : Hid (∀ b ∈ cs, b.2.2.length ≤ 1100000) := Lib.hid (fun b hb => by have := (hs1 b hb).1; omega)
  have Ht2 : Hid (∀ b ∈ bs, ∀ p ∈ b.2.2, p.1.size ≤ 2000000) := Lib.hid (fun b hb p hp => by have := (hs2 b hb).2 p hp; omega)
  have Hl2 : Hid (∀ b ∈ bs, b.2.2.length ≤ 1100000) := Lib.hid (fun b hb => by have := (hs2 b hb).1; omega)
  obtain ⟨n, hn⟩ : ∃ n, cs.length = n := ⟨_, rfl⟩
  obtain ⟨m, hm⟩ : ∃ m, bs.length = m := ⟨_, rfl⟩
  rw [hn] at hb1 hl1
  rw [hm] at hb2 hl2
  rw [hn, hm]
  obtain ⟨V, hV⟩ : ∃ V, chgRes cs bs = V := ⟨_, rfl⟩
  have HV := Lib.hid hV
  obtain ⟨O, hO⟩ : ∃ O, chgOK cs bs = O := ⟨_, rfl⟩
  have HO := Lib.hid hO
  have hVV : (V != V) = false := by simp
  have hVV2 : (V == V) = true := by simp
  clear hn hm hs1 hs2 hV hO c0
  go_wp2_with fail
  refine (c_impl_BatchesChange _ _ _ _ _ _ _ _ cs bs _ hb1 hb2 hg1.size hg1.size (by omega) (by omega) Ht1.out Ht2.out).mono ?_
  rintro e w2 ⟨rfl, hg2⟩
  rw [HV.out, HO.out]
  have hG2 := gb_trans hg1 hg2
  have hb1_2 := Recs.keep0 hb1 hg2
  have hb2_2 := Recs.keep0 hb2 hg2
  go_wp2_with fail
  refine (c_spec_BatchesChange _ _ _ _ _ _ _ _ cs bs _ hb1_2 hb2_2 hG2.size hG2.size (by omega) (by omega) Hl1.out Hl2.out Ht1.out Ht2.out).mono ?_
  rintro e w3 ⟨rfl, hg3⟩
  rw [HV.out, HO.out]
  have hG3 := gb_trans hG2 hg3
  have hb1_3 := Recs.keep0 hb1_2 hg3
  have hb2_3 := Recs.keep0 hb2_2 hg3
  clear hb1 hb2 hb1_2 hb2_2
  cases O with
  | false =>
    go_wp2
    go_ret
    exact ⟨rfl, gb_below hG3⟩
  | true =>
    have hoo : totOK cs = true ∧ totOK bs = true := by have := HO.out; unfold chgOK at this; rw [Bool.and_eq_true] at this; exact this
    have Hoo := Lib.hid hoo
    have hx := (tot_vld hoo.1).1
    have hy := (tot_vld hoo.2).1
    obtain ⟨xs, hxs⟩ : ∃ xs, totRes cs = xs := ⟨_, rfl⟩
    have Hxs := Lib.hid hxs
    obtain ⟨ys, hys⟩ : ∃ ys, totRes bs = ys := ⟨_, rfl⟩
    have Hys := Lib.hid hys
    rw [hxs] at hx
    rw [hys] at hy
    have hVe : V = sumPl (chgL xs ys) := by rw [← HV.out, chgRes, HO.out, if_pos rfl, hxs, hys]
    have hV2 : Hid (chgRes bs cs = V ∧ chgOK bs cs = true) := Lib.hid (by
      have ho : chgOK bs cs = true := by rw [chgOK, hoo.1, hoo.2]; rfl
      exact ⟨by rw [chgRes, ho, if_pos rfl, hxs, hys, hVe]; exact (chg_comm hx hy).symm, ho⟩)
    have hV3 : Hid (chgRes cs cs = 0 ∧ chgOK cs cs = true) := Lib.hid (by
      have ho : chgOK cs cs = true := by rw [chgOK, hoo.1]; rfl
      exact ⟨by rw [chgRes, ho, if_pos rfl, hxs]; exact (chg_zero hx hx).2 rfl, ho⟩)
    have hge := chg_ge hx hy
    rw [← hVe] at hge
    have hpx : Hid (pTotal xs = sumPl xs) := Lib.hid (by rw [← hxs, pTotal, if_pos (by have := hoo.1; unfold totOK at this; rw [Bool.and_eq_true] at this; rw [(tot_vld hoo.1).2]; exact this.2)])
    have hpy : Hid (pTotal ys = sumPl ys) := Lib.hid (by rw [← hys, pTotal, if_pos (by have := hoo.2; unfold totOK at this; rw [Bool.and_eq_true] at this; rw [(tot_vld hoo.2).2]; exact this.2)])
    have hsx : 0 ≤ sumPl xs ∧ sumPl xs ≤ 1188 := ⟨sumPl_nonneg (fun p hp => by have := hx.val p hp; omega), by have := sumPl_le (fun p hp => (hx.val p hp).2); have := hx.len; omega⟩
    have hsy : 0 ≤ sumPl ys ∧ sumPl ys ≤ 1188 := ⟨sumPl_nonneg (fun p hp => by have := hy.val p hp; omega), by have := sumPl_le (fun p hp => (hy.val p hp).2); have := hy.len; omega⟩
    have hzx : Hid (∀ p ∈ xs, p.1.size ≤ 2000000) := Lib.hid (by rw [← hxs]; exact tot_sizes Ht1.out)
    have hzy : Hid (∀ p ∈ ys, p.1.size ≤ 2000000) := Lib.hid (by rw [← hys]; exact tot_sizes Ht2.out)
    obtain ⟨X, hX⟩ : ∃ X, sumPl xs = X := ⟨_, rfl⟩
    obtain ⟨Y, hY⟩ : ∃ Y, sumPl ys = Y := ⟨_, rfl⟩
    rw [hX] at hpx hsx hge
    rw [hY] at hpy hsy hge
    obtain ⟨hX0, hX1⟩ := hsx
    obtain ⟨hY0, hY1⟩ := hsy
    clear hxs hys hoo hx hy hVe hX hY
    go_wp2_with fail
    refine (c_impl_BatchesChange _ _ _ _ _ _ _ _ bs cs _ hb2_3 hb1_3 hG3.size hG3.size (by omega) (by omega) Ht2.out Ht1.out).mono ?_
    rintro e w4 ⟨rfl, hg4⟩
    rw [hV2.out.1, hV2.out.2]
    have hG4 := gb_trans hG3 hg4
    have hb1_4 := Recs.keep0 hb1_3 hg4
    have hb2_4 := Recs.keep0 hb2_3 hg4
    go_wp2_with fail
    refine (c_impl_BatchesChange _ _ _ _ _ _ _ _ cs cs _ hb1_4 hb1_4 hG4.size hG4.size (by omega) (by omega) Ht1.out Ht1.out).mono ?_
    rintro e w5 ⟨rfl, hg5⟩
    rw [hV3.out.1, hV3.out.2]
    have hG5 := gb_trans hG4 hg5
    have hb1_5 := Recs.keep0 hb1_4 hg5
    have hb2_5 := Recs.keep0 hb2_4 hg5
    go_wp2_with fail
    refine (c_impl_BatchesTotal _ _ _ _ cs _ hb1_5 hG5.size (by omega) Ht1.out).mono ?_
    rintro e w6 ⟨B6, c6, rfl, hg6, ho6⟩
    rw [Hxs.out] at ho6
    rw [Hxs.out, Hoo.out.1]
    have hG6 := gb_trans hG5 hg6
    have hb2_6 := Recs.keep0 hb2_5 hg6
    go_wp2_with fail
    refine (c_impl_BatchesTotal _ _ _ _ bs _ hb2_6 hG6.size (by omega) Ht2.out).mono ?_
    rintro e w7 ⟨B7, c7, rfl, hg7, ho7⟩
    rw [Hys.out] at ho7
    rw [Hys.out, Hoo.out.2]
    have hG7 := gb_trans hG6 hg7
    have ho6_7 := own_below ho6 hg7
    go_wp2_with fail
    refine (c_impl_PilesTotal _ _ _ _ xs _ (Sl.own ho6_7) hzx.out).mono ?_
    rintro e w8 ⟨rfl, hg8⟩
    rw [hpx.out]
    have hG8 := gb_trans hG7 hg8
    go_wp2_with fail
    refine (c_impl_PilesTotal _ _ _ _ ys _ (Sl.own (own_below ho7 hg8)) hzy.out).mono ?_
    rintro e w9 ⟨rfl, hg9⟩
    rw [hpy.out]
    go_wp2
    go_ret
    exact ⟨rfl, gb_below (gb_trans hG8 hg9)⟩
end Go.Proofs.Ytbhchlnbhimcpaa.lawFnBatchesChange
