/-
  The walk of the law FnPublish: what is published has the same total.
-/
import Derived.Test.YtifmljckmjnpfaaTotLaw
import Derived.Test.YtifmljckmjnpfaaPubS
import Derived.Test.YtifmljckmjnpfaaSamePct
import Derived.Test.YtifmljckmjnpfaaDrawPct
namespace Go.Proofs.Ytifmljckmjnpfaa.lawFnPublish
open Go.RowKit
set_option linter.unusedVariables false

set_option maxRecDepth 100000 in
set_option maxHeartbeats 2000000 in
theorem walk (a0 : Option Addr) (len0 cap0 : Nat) (w : World) (c0 : CodeArg w a0 len0 cap0) :
    Calls Try.prog 12 #[.slice a0 len0 cap0] w fun e w' => e = .returned (.bool true) ∧ Below w.heap.size w w' := by
  by_cases h0 : 1048576 < len0
  · go_enter Try.func12, Try.ntmps12
    go_wp2
    go_ret
    exact ⟨rfl, Below.refl _ _⟩
  go_enter Try.func12, Try.ntmps12
  go_wp2_with fail
  refine (c_DrawPrecinctsPublish _ _ _ _ c0).mono ?_
  rintro e w1 ⟨A, cap, bs, least, rfl, hb1, hl7, hsm, hg1⟩
  have Ht : Hid (∀ b ∈ bs, ∀ p ∈ b.2, p.1.size ≤ 2000000) := Lib.hid (fun b hb p hp => by have := (hsm b hb).2 p hp; omega)
  have Hl1 : Hid (∀ b ∈ bs, b.2.length ≤ 1100000) := Lib.hid (fun b hb => by have := (hsm b hb).1; omega)
  obtain ⟨n, hn⟩ : ∃ n, bs.length = n := ⟨_, rfl⟩
  have hxl := Lib.hid hn
  rw [hn] at hb1 hl7
  rw [hn]
  obtain ⟨V, hV⟩ : ∃ V, pubRes bs least = V := ⟨_, rfl⟩
  have HV := Lib.hid hV
  obtain ⟨O, hO⟩ : ∃ O, pubOK bs least = O := ⟨_, rfl⟩
  have HO := Lib.hid hO
  obtain ⟨m, hm⟩ : ∃ m, V.length = m := ⟨_, rfl⟩
  have Hm := Lib.hid hm
  clear hn hV hO hm hsm c0
  have hOO : (O != O) = false := by simp
  have hOO2 : (O == O) = true := by simp
  go_wp2_with fail
  refine (c_impl_PrecinctsPublish _ A n cap bs least _ hb1 hg1.size (by omega) Ht.out).mono ?_
  rintro e w2 ⟨B2, c2, h2, rfl, hg2, ho2⟩
  rw [HV.out, Hm.out] at ho2
  rw [HV.out, HO.out, Hm.out]
  have hG2 := gb_trans hg1 hg2
  go_wp2_with fail
  refine (c_spec_PrecinctsPublish _ A n cap bs least _ (Recs.keep0 hb1 hg2) hG2.size (by omega) Hl1.out Ht.out).mono ?_
  rintro e w3 ⟨B3, c3, h3, rfl, hg3, ho3⟩
  rw [HV.out, Hm.out] at ho3
  rw [HV.out, HO.out, Hm.out]
  have hG3 := gb_trans hG2 hg3
  have hI2 := Recs.keep0 ho2.recs hg3
  have hI3 := ho3.recs
  have hb3 := Recs.keep0 hb1 (gb_trans hg2 hg3)
  clear ho2 ho3 hb1
  go_wp2_with fail
  refine (c_samePrecincts _ _ _ _ _ _ _ _ V V _ hI2 hI3).mono ?_
  rintro e w4 ⟨rfl, hg4⟩
  have hG4 := gb_trans hG3 hg4
  have hJ2 := Recs.keep0 hI2 hg4
  have hJ3 := Recs.keep0 hI3 hg4
  have hb4 := Recs.keep0 hb3 hg4
  clear hI2 hI3 hb3
  cases O with
  | false =>
    go_wp2_with fail
    refine (c_samePrecincts _ _ _ _ _ _ _ _ V V _ hJ2 hJ3).mono ?_
    rintro e w5 ⟨rfl, hg5⟩
    go_wp2
    go_ret
    exact ⟨rfl, gb_below (gb_trans hG4 hg5)⟩
  | true =>
    obtain ⟨q1, q2, q3, q4⟩ := pub_tot HO.out
    have hVL : V = pubL bs least := by rw [← HV.out, pubRes, if_pos HO.out]
    rw [← hVL] at q1 q2 q3 q4
    have hVt : Hid (∀ b ∈ V, ∀ p ∈ b.2, p.1.size ≤ 2000000) := Lib.hid (by
      rw [hVL, pubL]
      intro b hb
      obtain ⟨g, hg, rfl⟩ := List.mem_map.1 hb
      have h1 := HO.out
      unfold pubOK at h1
      rw [Bool.and_eq_true] at h1
      have hf := (pGroups_flat h1.1).1
      exact canon_sizes (pctEs_sizes (fun x hx => Ht.out x (by rw [← hf]; exact List.mem_flatten.2 ⟨g, hg, hx⟩))))
    have hm6 : m ≤ 6 := by have := pctsOK_len q1; have := Hm.out; omega
    obtain ⟨X, hX⟩ : ∃ X, ptotRes bs = X := ⟨_, rfl⟩
    obtain ⟨P, hP⟩ : ∃ P, ptotOK bs = P := ⟨_, rfl⟩
    obtain ⟨N, hN⟩ : ∃ N, X.length = N := ⟨_, rfl⟩
    have HN := Lib.hid hN
    have HX := Lib.hid hX
    have HP := Lib.hid hP
    rw [hP] at q2
    rw [hX] at q3
    rw [Hm.out] at q4
    have Q1 := Lib.hid q1
    have Q2 := Lib.hid q2
    have Q3 := Lib.hid q3
    have Q4 := Lib.hid q4
    have hPP : (P == P) = true := by simp
    have hz4 : w.heap.size ≤ w4.heap.size := hG4.size
    have hz34 : w2.heap.size ≤ w4.heap.size := Nat.le_trans hg3.size hg4.size
    have hz12 : w1.heap.size ≤ w4.heap.size := Nat.le_trans hg2.size hz34
    clear q1 q2 q3 q4 hVL hX hP hN
    go_wp2_with fail
    refine (c_impl_PrecinctsTotal _ A n cap bs _ hb4 hz4 (by omega) Ht.out).mono ?_
    rintro e w5 ⟨B5, c5, rfl, hg5, ho5⟩
    rw [HX.out, HN.out] at ho5
    rw [HX.out, HP.out, HN.out]
    have hG5 := gb_trans hG4 hg5
    go_wp2_with fail
    refine (c_impl_PrecinctsTotal _ B2 m c2 V _ (Recs.keep0 hJ2 hg5) (Nat.le_trans hz12 hg5.size) (by omega) hVt.out).mono ?_
    rintro e w6 ⟨B6, c6, rfl, hg6, ho6⟩
    rw [Q3.out, HN.out] at ho6
    rw [Q3.out, Q2.out, HN.out]
    have hG6 := gb_trans hG5 hg6
    have hg46 := gb_trans hg5 hg6
    go_wp2_with fail
    refine (c_impl_PrecinctsValid _ B2 m c2 V _ (Recs.keep0 hJ2 hg46) hVt.out).mono ?_
    rintro e w7 ⟨rfl, hg7⟩
    rw [Q1.out]
    have hG7 := gb_trans hG6 hg7
    have hg47 := gb_trans hg46 hg7
    go_wp2_with fail
    refine (c_impl_PrecinctsGroup _ A n cap bs least _ (Recs.keep0 hb4 hg47) (by omega) Ht.out).mono ?_
    rintro e w8 ⟨B8, m8, c8, h8, rfl, hg8, ho8⟩
    obtain rfl : m8 = m := by have h1 := ho8.xlen; have h2 := Q4.out; omega
    have hG8 := gb_trans hG7 hg8
    have ho6_8 := own_below ho6 (gb_trans hg7 hg8)
    have ho5_8 := own_below ho5 (gb_trans hg6 (gb_trans hg7 hg8))
    go_wp2_with fail
    refine (c_samePiles _ _ _ _ _ _ _ _ X X _ (Sl.own ho5_8) (Sl.own ho6_8)).mono ?_
    rintro e w9 ⟨rfl, hg9⟩
    go_wp2
    go_ret
    exact ⟨ret_bool (by simp), gb_below (gb_trans hG8 hg9)⟩
end Go.Proofs.Ytifmljckmjnpfaa.lawFnPublish
