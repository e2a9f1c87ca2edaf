/-
  The walk of the law FnBatchesChangeSame: nothing changes just when the totals are the same.
-/
import Derived.Test.YtbhchlnbhimcpaaChangeZero
namespace Go.Proofs.Ytbhchlnbhimcpaa.lawFnBatchesChangeSame
open Go.RowKit
set_option linter.unusedVariables false

set_option maxRecDepth 100000 in
set_option maxHeartbeats 2000000 in
theorem walk (a0 : Option Addr) (len0 cap0 : Nat) (w : World) (c0 : CodeArg w a0 len0 cap0) :
    Calls Try.prog 15 #[.slice a0 len0 cap0] w fun e w' => e = .returned (.bool true) ∧ Below w.heap.size w w' := by
  by_cases h0 : 1048576 < len0
  · go_enter Try.func15, Try.ntmps15
    go_wp2
    go_ret
    exact ⟨rfl, Below.refl _ _⟩
  go_enter Try.func15, Try.ntmps15
  go_wp2_with fail
  refine (c_DrawBatchesChange _ _ _ _ c0).mono ?_
  rintro e w1 ⟨A1, c1, cs, A2, c2, bs, rfl, hb1, hb2, hl1, hl2, hs1, hs2, hg1⟩
  have Ht1 : Hid (∀ b ∈ cs, ∀ p ∈ b.2.2, p.1.size ≤ 2000000) := Lib.hid (fun b hb p hp => by have := (hs1 b hb).2 p hp; omega)
  have Hl1 : Hid (∀ b ∈ cs, b.2.2.length ≤ 1100000) := Lib.hid (fun b hb => by have := (hs1 b hb).1; omega)
  have Ht2 : Hid (∀ b ∈ bs, ∀ p ∈ b.2.2, p.1.size ≤ 2000000) := Lib.hid (fun b hb p hp => by have := (hs2 b hb).2 p hp; omega)
  have Hl2 : Hid (∀ b ∈ bs, b.2.2.length ≤ 1100000) := Lib.hid (fun b hb => by have := (hs2 b hb).1; omega)
  obtain ⟨n, hn⟩ : ∃ n, cs.length = n := ⟨_, rfl⟩
  obtain ⟨m, hm⟩ : ∃ m, bs.length = m := ⟨_, rfl⟩
  rw [hn] at hb1 hl1
  rw [hm] at hb2 hl2
  rw [hn, hm]
  obtain ⟨V, hV⟩ : ∃ V, chgRes cs bs = V := ⟨_, rfl⟩
  have HV := Lib.hid hV
  obtain ⟨O, hO⟩ : ∃ O, chgOK cs bs = O := ⟨_, rfl⟩
  have HO := Lib.hid hO
  have hVV : (V != V) = false := by simp
  have hVV2 : (V == V) = true := by simp
  clear hn hm hs1 hs2 hV hO c0
  go_wp2_with fail
  refine (c_impl_BatchesChange _ _ _ _ _ _ _ _ cs bs _ hb1 hb2 hg1.size hg1.size (by omega) (by omega) Ht1.out Ht2.out).mono ?_
  rintro e w2 ⟨rfl, hg2⟩
  rw [HV.out, HO.out]
  have hG2 := gb_trans hg1 hg2
  have hb1_2 := Recs.keep0 hb1 hg2
  have hb2_2 := Recs.keep0 hb2 hg2
  go_wp2_with fail
  refine (c_spec_BatchesChange _ _ _ _ _ _ _ _ cs bs _ hb1_2 hb2_2 hG2.size hG2.size (by omega) (by omega) Hl1.out Hl2.out Ht1.out Ht2.out).mono ?_
  rintro e w3 ⟨rfl, hg3⟩
  rw [HV.out, HO.out]
  have hG3 := gb_trans hG2 hg3
  have hb1_3 := Recs.keep0 hb1_2 hg3
  have hb2_3 := Recs.keep0 hb2_2 hg3
  clear hb1 hb2 hb1_2 hb2_2
  cases O with
  | false =>
    go_wp2
    go_ret
    exact ⟨rfl, gb_below hG3⟩
  | true =>
    have hoo : totOK cs = true ∧ totOK bs = true := by have := HO.out; unfold chgOK at this; rw [Bool.and_eq_true] at this; exact this
    have Hoo := Lib.hid hoo
    obtain ⟨xs, hxs⟩ : ∃ xs, totRes cs = xs := ⟨_, rfl⟩
    have Hxs := Lib.hid hxs
    obtain ⟨ys, hys⟩ : ∃ ys, totRes bs = ys := ⟨_, rfl⟩
    have Hys := Lib.hid hys
    have hzero : decide (xs = ys) = (V == 0) := by
      have h1 := chg_zero (tot_vld hoo.1).1 (tot_vld hoo.2).1
      have h2 : V = sumPl (chgL (totRes cs) (totRes bs)) := by rw [← HV.out, chgRes, HO.out, if_pos rfl]
      rw [hxs, hys] at h1
      rw [hxs, hys] at h2
      rw [← h2] at h1
      by_cases h3 : xs = ys
      · rw [decide_eq_true h3, (beq_iff_eq).2 (h1.2 h3)]
      · rw [decide_eq_false h3, beq_eq_false_iff_ne.2 (fun e => h3 (h1.1 e))]
    have Hzero := Lib.hid hzero
    clear hxs hys hzero hoo
    go_wp2_with fail
    refine (c_impl_BatchesTotal _ _ _ _ cs _ hb1_3 hG3.size (by omega) Ht1.out).mono ?_
    rintro e w4 ⟨B4, c4, rfl, hg4, ho4⟩
    rw [Hxs.out] at ho4
    rw [Hxs.out, Hoo.out.1]
    have hG4 := gb_trans hG3 hg4
    have hb2_4 := Recs.keep0 hb2_3 hg4
    go_wp2_with fail
    refine (c_impl_BatchesTotal _ _ _ _ bs _ hb2_4 hG4.size (by omega) Ht2.out).mono ?_
    rintro e w5 ⟨B5, c5, rfl, hg5, ho5⟩
    rw [Hys.out] at ho5
    rw [Hys.out, Hoo.out.2]
    have hG5 := gb_trans hG4 hg5
    have ho4_5 := own_below ho4 hg5
    obtain ⟨Z, hZ⟩ : ∃ Z, (V == 0) = Z := ⟨_, rfl⟩
    have HZ := Lib.hid hZ
    have hZZ : (Z == Z) = true := by simp
    go_wp2_with fail
    refine (c_samePiles _ _ _ _ _ _ _ _ xs ys _ (Sl.own ho4_5) (Sl.own ho5)).mono ?_
    rintro e w6 ⟨rfl, hg6⟩
    rw [Hzero.out, HZ.out]
    go_wp2
    go_ret
    exact ⟨rfl, gb_below (gb_trans hG5 hg6)⟩
end Go.Proofs.Ytbhchlnbhimcpaa.lawFnBatchesChangeSame
