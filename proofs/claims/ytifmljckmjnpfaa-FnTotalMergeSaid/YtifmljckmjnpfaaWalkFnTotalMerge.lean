/-
  The walk of the law FnTotalMerge: totals of parts can be merged.
-/
import Derived.Test.YtifmljckmjnpfaaTotLaw
import Derived.Test.YtifmljckmjnpfaaMerge
import Derived.Test.YtifmljckmjnpfaaSame
import Derived.Test.YtifmljckmjnpfaaDrawPct
namespace Go.Proofs.Ytifmljckmjnpfaa.lawFnTotalMerge
open Go.RowKit
set_option linter.unusedVariables false

set_option maxRecDepth 100000 in
set_option maxHeartbeats 600000 in
theorem walk (a0 : Option Addr) (len0 cap0 : Nat) (a1 : Option Addr) (len1 cap1 : Nat) (w : World) (c0 : CodeArg w a0 len0 cap0) (c1 : CodeArg w a1 len1 cap1) :
    Calls Try.prog 8 #[.slice a0 len0 cap0, .slice a1 len1 cap1] w fun e w' => e = .returned (.bool true) ∧ Below w.heap.size w w' := by
  by_cases h0 : 1048576 < len0
  · go_enter Try.func8, Try.ntmps8
    go_wp2
    go_ret
    exact ⟨rfl, Below.refl _ _⟩
  by_cases h1 : 1048576 < len1
  · go_enter Try.func8, Try.ntmps8
    go_wp2
    go_ret
    exact ⟨rfl, Below.refl _ _⟩
  go_enter Try.func8, Try.ntmps8
  go_wp2_with fail
  refine (c_DrawPrecinctsTotal _ _ _ _ c0).mono ?_
  rintro e w1 ⟨A, cap, bs, rfl, hb1, hl7, hsm, hg1⟩
  have Ht : Hid (∀ b ∈ bs, ∀ p ∈ b.2, p.1.size ≤ 2000000) := Lib.hid (fun b hb p hp => by have := (hsm b hb).2 p hp; omega)
  have Hl1 : Hid (∀ b ∈ bs, b.2.length ≤ 1100000) := Lib.hid (fun b hb => by have := (hsm b hb).1; omega)
  obtain ⟨n, hn⟩ : ∃ n, bs.length = n := ⟨_, rfl⟩
  have hxl := Lib.hid hn
  rw [hn] at hb1 hl7
  rw [hn]
  obtain ⟨V, hV⟩ : ∃ V, ptotRes bs = V := ⟨_, rfl⟩
  have HV := Lib.hid hV
  obtain ⟨O, hO⟩ : ∃ O, ptotOK bs = O := ⟨_, rfl⟩
  have HO := Lib.hid hO
  obtain ⟨m, hm⟩ : ∃ m, V.length = m := ⟨_, rfl⟩
  have Hm := Lib.hid hm
  have hlc := hb1.le
  have hcm := hb1.max
  clear hn hV hO hm hsm c0
  have hOO : (O != O) = false := by simp
  have hOO2 : (O == O) = true := by simp
  go_wp2_with fail
  refine (c_impl_PrecinctsTotal _ A n cap bs _ hb1 hg1.size (by omega) Ht.out).mono ?_
  rintro e w2 ⟨B2, c2, rfl, hg2, ho2⟩
  rw [HV.out, Hm.out] at ho2
  rw [HV.out, HO.out, Hm.out]
  have hG2 := gb_trans hg1 hg2
  go_wp2_with fail
  refine (c_spec_PrecinctsTotal _ A n cap bs _ (Recs.keep0 hb1 hg2) hG2.size (by omega) Hl1.out Ht.out).mono ?_
  rintro e w3 ⟨B3, c3, rfl, hg3, ho3⟩
  rw [HV.out, Hm.out] at ho3
  rw [HV.out, HO.out, Hm.out]
  have hG3 := gb_trans hG2 hg3
  have ho2_3 := own_below ho2 hg3
  go_wp2_with fail
  refine (c_samePiles _ _ _ _ _ _ _ _ V V _ (Sl.own ho2_3) (Sl.own ho3)).mono ?_
  rintro e w4 ⟨rfl, hg4⟩
  have hG4 := gb_trans hG3 hg4
  have ho2_4 := own_below ho2_3 hg4
  have ho3_4 := own_below ho3 hg4
  have hb4 := Recs.keep0 hb1 (gb_trans hg2 (gb_trans hg3 hg4))
  clear ho2 ho2_3 ho3 hb1 hG2 hG3
  cases O with
  | false =>
    go_wp2_with fail
    refine (c_samePiles _ _ _ _ _ _ _ _ V V _ (Sl.own ho2_4) (Sl.own ho3_4)).mono ?_
    rintro e w5 ⟨rfl, hg5⟩
    go_wp2
    go_ret
    exact ⟨rfl, gb_below (gb_trans hG4 hg5)⟩
  | true =>
    obtain ⟨k, hk⟩ : ∃ k, len1 % (n + 1) = k := ⟨_, rfl⟩
    have hkn : k ≤ n := by have := Nat.mod_lt len1 (show 0 < n + 1 by omega); omega
    have hrem : (len1 : Int).tmod ((n : Int) + 1) = (k : Int) := by rw [Int.tmod_eq_emod_of_nonneg (by omega), ← hk]; push_cast; rfl
    have hn0' : ¬ (n : Int) + 1 = 0 := by omega
    have hkc : (k : Int) ≤ (cap : Int) := by omega
    have hkn' : (k : Int) ≤ (n : Int) := by omega
    have hk0 : (0 : Int) ≤ (k : Int) := by omega
    obtain ⟨q1, q2, q3, q4, q5⟩ := tot_merge (k := k) HO.out
    have htake := hb4.take hkn
    have hdrop := hb4.drop hkn
    have Ht1 : Hid (∀ b ∈ bs.take k, ∀ p ∈ b.2, p.1.size ≤ 2000000) := Lib.hid (fun b hb => Ht.out b (List.take_subset _ _ hb))
    have Ht2 : Hid (∀ b ∈ bs.drop k, ∀ p ∈ b.2, p.1.size ≤ 2000000) := Lib.hid (fun b hb => Ht.out b (List.drop_subset _ _ hb))
    have hz1 : w.heap.size ≤ w4.heap.size := hG4.size
    have hc1 := c_impl_PrecinctsTotal _ A k cap (bs.take k) _ htake hz1 (by omega) Ht1.out
    have hd2 : Hid (∀ x : World, w4.grownBy x none → Calls Try.prog 30 #[.slice (if cap = k then A else A.map (·.add (k * 2))) (n - k) (cap - k)] x (PilesOkRes (ptotRes (bs.drop k)) (ptotOK (bs.drop k)) x)) := Lib.hid (fun x hx => c_impl_PrecinctsTotal _ _ (n - k) (cap - k) (bs.drop k) x (Recs.keep0 hdrop hx) (Nat.le_trans hz1 hx.size) (by omega) Ht2.out)
    rw [q3, q1] at hc1
    rw [q4, q2] at hd2
    obtain ⟨X, hX⟩ : ∃ X, canon (pctEs (bs.take k)) = X := ⟨_, rfl⟩
    obtain ⟨Y, hY⟩ : ∃ Y, canon (pctEs (bs.drop k)) = Y := ⟨_, rfl⟩
    have hXo : pilesOK X = true := by unfold ptotOK at q1; rw [Bool.and_eq_true] at q1; rw [← hX]; exact q1.2
    have hYo : pilesOK Y = true := by unfold ptotOK at q2; rw [Bool.and_eq_true] at q2; rw [← hY]; exact q2.2
    have hVo : pilesOK V = true := by
      have h1 := HO.out
      rw [← HV.out, ptotRes, h1]
      unfold ptotOK at h1
      rw [Bool.and_eq_true] at h1
      exact h1.2
    have hXs : Hid (∀ p ∈ X, p.1.size ≤ 2000000) := Lib.hid (by rw [← hX]; exact canon_sizes (pctEs_sizes Ht1.out))
    have hYs : Hid (∀ p ∈ Y, p.1.size ≤ 2000000) := Lib.hid (by rw [← hY]; exact canon_sizes (pctEs_sizes Ht2.out))
    rw [hX, hY, HV.out] at q5
    have hmo : mergeOK X Y = true := by rw [mergeOK, hXo, hYo, q5, hVo]; rfl
    have hmr : mergeRes X Y = V := by rw [mergeRes, hmo, ← q5]; rfl
    rw [hX] at hc1
    rw [hY] at hd2
    obtain ⟨N1, hN1⟩ : ∃ N, X.length = N := ⟨_, rfl⟩
    obtain ⟨N2, hN2⟩ : ∃ N, Y.length = N := ⟨_, rfl⟩
    have HN1 := Lib.hid hN1
    have HN2 := Lib.hid hN2
    have Hmo := Lib.hid hmo
    have Hmr := Lib.hid hmr
    have Hc1 := Lib.hid hc1
    clear hc1 q1 q2 q3 q4 q5 htake hdrop hX hY hXo hYo hVo hmo hmr hN1 hN2 hk
    go_wp2_with fail
    refine Hc1.out.mono ?_
    rintro e w5 ⟨B5, c5, rfl, hg5, ho5⟩
    rw [HN1.out] at ho5
    rw [HN1.out]
    clear Hc1
    have hdd := hd2.out
    clear hd2
    by_cases hck : cap = k
    · have hd2' : ∀ x : World, w4.grownBy x none → Calls Try.prog 30 #[.slice A (n - k) (cap - k)] x (PilesOkRes Y true x) := fun x hx => by have := hdd x hx; rwa [if_pos hck] at this
      obtain rfl : cap = n := by omega
      obtain rfl : cap = k := hck
      rw [Nat.sub_self] at hd2'
      clear hdd
      go_wp2_with fail
      refine (hd2' _ hg5).mono ?_
      rintro e w6 ⟨B6, c6, rfl, hg6, ho6⟩
      rw [HN2.out] at ho6
      rw [HN2.out]
      have hg46 := gb_trans hg5 hg6
      have ho5_6 := own_below ho5 hg6
      go_wp2_with fail
      refine (c_impl_PilesMerge _ _ _ _ _ _ _ _ X Y _ (Sl.own ho5_6) (Sl.own ho6) hXs.out hYs.out).mono ?_
      rintro e w7 ⟨B7, c7, rfl, hg7, ho7⟩
      rw [Hmr.out, Hm.out] at ho7
      rw [Hmr.out, Hmo.out, Hm.out]
      have hg47 := gb_trans hg46 hg7
      have ho2_7 := own_below ho2_4 hg47
      go_wp2_with fail
      refine (c_samePiles _ _ _ _ _ _ _ _ V V _ (Sl.own ho7) (Sl.own ho2_7)).mono ?_
      rintro e w8 ⟨rfl, hg8⟩
      go_wp2
      go_ret
      exact ⟨ret_bool (by simp), gb_below (gb_trans hG4 (gb_trans hg47 hg8))⟩
    · have hd2' : ∀ x : World, w4.grownBy x none → Calls Try.prog 30 #[.slice (Option.map (fun a : Addr => a.add (k * 2)) A) (n - k) (cap - k)] x (PilesOkRes Y true x) := fun x hx => by have := hdd x hx; rwa [if_neg hck] at this
      clear hdd
      go_wp2_with fail
      refine (hd2' _ hg5).mono ?_
      rintro e w6 ⟨B6, c6, rfl, hg6, ho6⟩
      rw [HN2.out] at ho6
      rw [HN2.out]
      have hg46 := gb_trans hg5 hg6
      have ho5_6 := own_below ho5 hg6
      go_wp2_with fail
      refine (c_impl_PilesMerge _ _ _ _ _ _ _ _ X Y _ (Sl.own ho5_6) (Sl.own ho6) hXs.out hYs.out).mono ?_
      rintro e w7 ⟨B7, c7, rfl, hg7, ho7⟩
      rw [Hmr.out, Hm.out] at ho7
      rw [Hmr.out, Hmo.out, Hm.out]
      have hg47 := gb_trans hg46 hg7
      have ho2_7 := own_below ho2_4 hg47
      go_wp2_with fail
      refine (c_samePiles _ _ _ _ _ _ _ _ V V _ (Sl.own ho7) (Sl.own ho2_7)).mono ?_
      rintro e w8 ⟨rfl, hg8⟩
      go_wp2
      go_ret
      exact ⟨ret_bool (by simp), gb_below (gb_trans hG4 (gb_trans hg47 hg8))⟩
end Go.Proofs.Ytifmljckmjnpfaa.lawFnTotalMerge
