/-
  The walk of the law FnPublishEnough: no small precinct is published.
-/
import Derived.Test.YtifmljckmjnpfaaTotLaw
import Derived.Test.YtifmljckmjnpfaaPubS
import Derived.Test.YtifmljckmjnpfaaSamePct
import Derived.Test.YtifmljckmjnpfaaDrawPct
namespace Go.Proofs.Ytifmljckmjnpfaa.lawFnPublishEnough
open Go.RowKit
set_option linter.unusedVariables false

set_option maxRecDepth 100000 in
set_option maxHeartbeats 2000000 in
theorem walk (a0 : Option Addr) (len0 cap0 : Nat) (w : World) (c0 : CodeArg w a0 len0 cap0) :
    Calls Try.prog 11 #[.slice a0 len0 cap0] w fun e w' => e = .returned (.bool true) ∧ Below w.heap.size w w' := by
  by_cases h0 : 1048576 < len0
  · go_enter Try.func11, Try.ntmps11
    go_wp2
    go_ret
    exact ⟨rfl, Below.refl _ _⟩
  go_enter Try.func11, Try.ntmps11
  go_wp2_with fail
  refine (c_DrawPrecinctsPublish _ _ _ _ c0).mono ?_
  rintro e w1 ⟨A, cap, bs, least, rfl, hb1, hl7, hsm, hg1⟩
  have Ht : Hid (∀ b ∈ bs, ∀ p ∈ b.2, p.1.size ≤ 2000000) := Lib.hid (fun b hb p hp => by have := (hsm b hb).2 p hp; omega)
  have Hl1 : Hid (∀ b ∈ bs, b.2.length ≤ 1100000) := Lib.hid (fun b hb => by have := (hsm b hb).1; omega)
  obtain ⟨n, hn⟩ : ∃ n, bs.length = n := ⟨_, rfl⟩
  have hxl := Lib.hid hn
  rw [hn] at hb1 hl7
  rw [hn]
  obtain ⟨V, hV⟩ : ∃ V, pubRes bs least = V := ⟨_, rfl⟩
  have HV := Lib.hid hV
  obtain ⟨O, hO⟩ : ∃ O, pubOK bs least = O := ⟨_, rfl⟩
  have HO := Lib.hid hO
  obtain ⟨m, hm⟩ : ∃ m, V.length = m := ⟨_, rfl⟩
  have Hm := Lib.hid hm
  clear hn hV hO hm hsm c0
  have hOO : (O != O) = false := by simp
  have hOO2 : (O == O) = true := by simp
  go_wp2_with fail
  refine (c_impl_PrecinctsPublish _ A n cap bs least _ hb1 hg1.size (by omega) Ht.out).mono ?_
  rintro e w2 ⟨B2, c2, h2, rfl, hg2, ho2⟩
  rw [HV.out, Hm.out] at ho2
  rw [HV.out, HO.out, Hm.out]
  have hG2 := gb_trans hg1 hg2
  go_wp2_with fail
  refine (c_spec_PrecinctsPublish _ A n cap bs least _ (Recs.keep0 hb1 hg2) hG2.size (by omega) Hl1.out Ht.out).mono ?_
  rintro e w3 ⟨B3, c3, h3, rfl, hg3, ho3⟩
  rw [HV.out, Hm.out] at ho3
  rw [HV.out, HO.out, Hm.out]
  have hG3 := gb_trans hG2 hg3
  have hI2 := Recs.keep0 ho2.recs hg3
  have hI3 := ho3.recs
  have hb3 := Recs.keep0 hb1 (gb_trans hg2 hg3)
  clear ho2 ho3 hb1
  go_wp2_with fail
  refine (c_samePrecincts _ _ _ _ _ _ _ _ V V _ hI2 hI3).mono ?_
  rintro e w4 ⟨rfl, hg4⟩
  have hG4 := gb_trans hG3 hg4
  have hJ2 := Recs.keep0 hI2 hg4
  have hJ3 := Recs.keep0 hI3 hg4
  have hb4 := Recs.keep0 hb3 hg4
  clear hI2 hI3 hb3
  cases O with
  | false =>
    go_wp2_with fail
    refine (c_samePrecincts _ _ _ _ _ _ _ _ V V _ hJ2 hJ3).mono ?_
    rintro e w5 ⟨rfl, hg5⟩
    go_wp2
    go_ret
    exact ⟨rfl, gb_below (gb_trans hG4 hg5)⟩
  | true =>
    obtain ⟨q1, q2, q3⟩ := pub_again HO.out
    have hVL : V = pubL bs least := by rw [← HV.out, pubRes, if_pos HO.out]
    have hv6 := (pub_tot HO.out).1
    rw [← hVL] at q1 q2 q3 hv6
    have hVt : Hid (∀ b ∈ V, ∀ p ∈ b.2, p.1.size ≤ 2000000) := Lib.hid (by
      rw [hVL, pubL]
      intro b hb
      obtain ⟨g, hg, rfl⟩ := List.mem_map.1 hb
      have h1 := HO.out
      unfold pubOK at h1
      rw [Bool.and_eq_true] at h1
      have hf := (pGroups_flat h1.1).1
      exact canon_sizes (pctEs_sizes (fun x hx => Ht.out x (by rw [← hf]; exact List.mem_flatten.2 ⟨g, hg, hx⟩))))
    have hm6 : m ≤ 6 := by have := pctsOK_len hv6; have := Hm.out; omega
    have Q1 := Lib.hid q1
    have Q2 := Lib.hid q2
    have Q3 := Lib.hid q3
    have hz4 : w.heap.size ≤ w4.heap.size := hG4.size
    have hz12 : w1.heap.size ≤ w4.heap.size := Nat.le_trans hg2.size (Nat.le_trans hg3.size hg4.size)
    have hlc := hJ2.le
    have hcm := hJ2.max
    clear q1 q2 q3 hVL hv6 hJ3
    go_wp2
    go_loopw [9] (fun i x => ∃ k : Nat, k ≤ m ∧ i = .int .i64 k ∧ w4.grownBy x none) (fun i _ => m - (intOf i).toNat)
    case atStart => exact ⟨0, Nat.zero_le _, rfl, gb_refl _ _⟩
    case round =>
      obtain ⟨k, hk, rfl, hG⟩ := hrel
      rename World => x
      have hfin : Hid (∀ y : World, w4.grownBy y none → Calls Try.prog 40 #[.slice B2 m c2, .int .i64 least] y (fun e w' => ∃ B c hs, e = .returned (.tuple #[.slice B m c, .bool true]) ∧ y.grownBy w' none ∧ OwnRecs pcRec 66 35 w' y.heap.size w'.heap.size B m c V hs)) := Lib.hid (fun y hy => by
        refine (c_impl_PrecinctsPublish _ B2 m c2 V least y (Recs.keep0 hJ2 hy) (Nat.le_trans hz12 hy.size) (by omega) hVt.out).mono ?_
        rintro e z ⟨B, c, hs, rfl, hg, ho⟩
        rw [Q2.out, Hm.out] at ho
        exact ⟨B, c, hs, by rw [Q2.out, Q1.out, Hm.out], hg, ho⟩)
      by_cases hlt : k < m
      · have hk' : (k : Int) < (m : Int) := by omega
        have hk0 : (0 : Int) ≤ (k : Int) := by omega
        by_cases hm1 : 1 < m
        · have hm1' : (1 : Int) < (m : Int) := by omega
          obtain ⟨b, off, id, ps, A', c', rfl, hp, hps, m0, m1⟩ := Pcts.at_ (Recs.keep0 hJ2 hG) hlt
          have hge : least ≤ pTotal ps := Q3.out (by have := Hm.out; omega) _ (List.mem_of_getElem? hp.out)
          have hcall := c_impl_PilesTotal _ A' ps.length c' ps _ hps (hVt.out _ (List.mem_of_getElem? hp.out))
          obtain ⟨N, hN⟩ : ∃ N, ps.length = N := ⟨_, rfl⟩
          obtain ⟨X, hX⟩ : ∃ X, pTotal ps = X := ⟨_, rfl⟩
          rw [hN, hX] at hcall
          rw [hN] at m1
          rw [hX] at hge
          have Hc := Lib.hid hcall
          clear hcall hps hN hX hp hfin
          go_wp2_with fail
          refine Hc.out.mono ?_
          rintro e x1 ⟨rfl, hg6⟩
          clear Hc
          have hgd : decide (X < least) = false := by simp; omega
          go_wp2
          go_roundw
          case rel => exact ⟨k + 1, by omega, by go_num, gb_trans hG hg6⟩
          case measure => simp [intOf]; omega
        · have hm1' : ¬ (1 : Int) < (m : Int) := by omega
          go_wp2_with fail
          refine (hfin.out _ hG).mono ?_
          rintro e x1 ⟨B5, c5, h5, rfl, hg5, ho5⟩
          go_wp2_with fail
          refine (c_samePrecincts _ _ _ _ _ _ _ _ V V _ ho5.recs (Recs.keep0 hJ2 (gb_trans hG hg5))).mono ?_
          rintro e x2 ⟨rfl, hg6⟩
          go_wp2
          go_ret
          exact ⟨ret_bool (by simp), gb_below (gb_trans hG4 (gb_trans hG (gb_trans hg5 hg6)))⟩
      · obtain rfl : k = m := by omega
        go_wp2_with fail
        refine (hfin.out _ hG).mono ?_
        rintro e x1 ⟨B5, c5, h5, rfl, hg5, ho5⟩
        go_wp2_with fail
        refine (c_samePrecincts _ _ _ _ _ _ _ _ V V _ ho5.recs (Recs.keep0 hJ2 (gb_trans hG hg5))).mono ?_
        rintro e x2 ⟨rfl, hg6⟩
        go_wp2
        go_ret
        exact ⟨ret_bool (by simp), gb_below (gb_trans hG4 (gb_trans hG (gb_trans hg5 hg6)))⟩
end Go.Proofs.Ytifmljckmjnpfaa.lawFnPublishEnough
