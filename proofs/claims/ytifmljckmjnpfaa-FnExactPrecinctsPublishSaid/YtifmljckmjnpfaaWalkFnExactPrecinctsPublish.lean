/-
  The walk of the law FnExactPrecinctsPublish: the program's PrecinctsPublish returns what the reference's returns, in memory of its own, and leaves its argument.
-/
import Derived.Test.YtifmljckmjnpfaaPubS
import Derived.Test.YtifmljckmjnpfaaMarkPct
import Derived.Test.YtifmljckmjnpfaaRecArgs
namespace Go.Proofs.Ytifmljckmjnpfaa.lawFnExactPrecinctsPublish
open Go.RowKit
set_option linter.unusedVariables false

theorem pub_small (bs : List Pc) (least : Int) : (pubRes bs least).length ≤ 6 ∧ ∀ b ∈ pubRes bs least, b.2.length ≤ 12 := by
  rw [pubRes]
  split
  · rename_i hok
    have hv : pctsOK (pubL bs least) = true := by
      unfold pubOK at hok
      rw [Bool.and_eq_true] at hok
      rw [pub_valid hok.1]
      exact hok.2
    exact ⟨pctsOK_len hv, fun b hb => ((pilesOK_iff _).1 (pctsOK_piles hv b hb)).2.2⟩
  · simp

set_option maxHeartbeats 4000000 in
theorem walk (a0 : Option Addr) (len0 cap0 : Nat) (bs : List Pc) (least : Int) (w : World) (h : RecsWf pcRec bs ∧ Pcts w 0 a0 len0 cap0 bs) (_wl : (Lit.int .i64 least).wf = true) :
    Calls Try.prog 13 #[.slice a0 len0 cap0, .int .i64 least] w fun e w' => e = .returned (.bool true) ∧ Below w.heap.size w w' := by
  obtain ⟨hw, h⟩ := h
  have Hw : Hid (RecsWf0 pcRec bs) := Lib.hid (fun x hx p hp => (hw x hx p hp).2)
  clear hw
  go_enter Try.func13, Try.ntmps13
  go_wp2_with fail
  refine (c_szPctS 0 a0 len0 cap0 bs 1048576 _ h Hw.out (by omega) (by omega)).mono ?_
  rintro e w1 ⟨r, rfl, hr1, hr, hg1⟩
  by_cases hr0 : r < 0
  · go_wp2
    go_ret
    exact ⟨rfl, gb_below hg1⟩
  obtain ⟨hr2, hr3, hl, ht⟩ := (show 0 ≤ r ∧ r ≤ 1048576 ∧ _ ∧ _ from by rcases hr with hr | hr; exact absurd hr hr0; exact hr)
  have Hl : Hid (∀ b ∈ bs, b.2.length ≤ 1048576) := Lib.hid (fun b hb => by have h1 : ((b.2).length : Int) ≤ 1048576 := (ht b hb).1; omega)
  have Hl2 : Hid (∀ b ∈ bs, b.2.length ≤ 2000000) := Lib.hid (fun b hb => by have := Hl.out b hb; omega)
  have Ht : Hid (∀ b ∈ bs, ∀ p ∈ b.2, p.1.size ≤ 2000000) := Lib.hid (fun b hb p hp => by have h1 : (p.1.size : Int) ≤ 1048576 := (ht b hb).2 p hp; omega)
  have hlen0 : len0 ≤ 1048576 := by have := h.len; omega
  have hlen : len0 ≤ 1500000 := by omega
  have Hcb : Hid (cntPc 1 bs ≤ 10000000000000) := Lib.hid (by
    have := cntPc_le 1 1048576 1048576 bs (by have := h.len; omega) Hl.out
    omega)
  have Hl1 : Hid (∀ b ∈ bs, b.2.length ≤ 1100000) := Lib.hid (fun b hb => by have := Hl.out b hb; omega)
  obtain ⟨V, hV⟩ : ∃ V, pubRes bs least = V := ⟨_, rfl⟩
  have HV := Lib.hid hV
  obtain ⟨O, hO⟩ : ∃ O, pubOK bs least = O := ⟨_, rfl⟩
  have HO := Lib.hid hO
  have hsm := pub_small bs least
  rw [hV] at hsm
  have Hcv2 : Hid (cntPc 1 V ≤ 10000000000000) := Lib.hid (by
    have := cntPc_le 1 6 12 V hsm.1 hsm.2
    omega)
  obtain ⟨m, hm⟩ : ∃ m, V.length = m := ⟨_, rfl⟩
  have Hm := Lib.hid hm
  have hOO : (O != O) = false := by simp
  have hOO2 : (O == O) = true := by simp
  clear hr ht hl hV hO hm hsm
  have hdV : decide (V = V) = true := by simp
  have hdB : decide (bs = bs) = true := by simp
  go_wp2_with fail
  refine (c_toPctS 0 a0 len0 cap0 bs _ (Recs.keep0 h hg1) hlen Hl2.out).mono ?_
  rintro e w2 ⟨rfl, hg2, hs2, ho2⟩
  have hG2 := gb_trans hg1 hg2
  go_wp2_with fail
  refine (c_spec_PrecinctsPublish _ _ _ _ bs least _ ho2.recs hg2.size (by omega) Hl1.out Ht.out).mono ?_
  rintro e w3 ⟨B3, c3, h3, rfl, hg3, hw3⟩
  rw [HV.out, Hm.out] at hw3
  rw [HV.out, HO.out, Hm.out]
  have hG3 := gb_trans hG2 hg3
  clear ho2
  go_wp2_with fail
  refine (c_toPctS 0 a0 len0 cap0 bs _ (Recs.keep0 h hG3) hlen Hl2.out).mono ?_
  rintro e w4 ⟨rfl, hg4, hs4, ho4⟩
  have hG4 := gb_trans hG3 hg4
  go_wp2_with fail
  refine (c_impl_PrecinctsPublish _ _ _ _ bs least _ ho4.recs hg4.size (by omega) Ht.out).mono ?_
  rintro e w5 ⟨B5, c5, h5, rfl, hg5, ho5⟩
  rw [HV.out, Hm.out] at ho5
  rw [HV.out, HO.out, Hm.out]
  have hG5 := gb_trans hG4 hg5
  have hI3 := Recs.keep0 hw3.recs (gb_trans hg4 hg5)
  go_wp2_with fail
  refine (c_eqPctS _ _ _ _ _ _ _ _ V V _ ho5.recs hI3).mono ?_
  rintro e w6 ⟨rfl, hg6⟩
  go_wp2_with fail
  refine (c_toPctS 0 a0 len0 cap0 bs _ (Recs.keep0 h (gb_trans hG5 hg6)) hlen Hl2.out).mono ?_
  rintro e w7 ⟨rfl, hg7, hs7, ho7⟩
  have hg57 := gb_trans hg6 hg7
  have ho4_7 := ho4.keep (gb_trans hg5 hg57)
  go_wp2_with fail
  refine (c_eqPctS _ _ _ _ _ _ _ _ bs bs _ ho4_7.recs ho7.recs).mono ?_
  rintro e w8 ⟨rfl, hg8⟩
  have hg58 := gb_trans hg57 hg8
  have ho4_8 := ho4_7.keep hg8
  have ho5_8 := ho5.keep hg58
  have hw3_8 := hw3.keep (gb_trans hg4 (gb_trans hg5 hg58))
  have hG8 := gb_trans hG5 hg58
  clear ho7 ho4_7 ho4 hI3
  go_wp2_with fail
  refine (c_markPctS _ _ _ _ _ 1 bs _ _ ho4_8 (by omega) Hcb.out).mono ?_
  rintro e w9 ⟨rfl, hs9, ho9⟩
  have ho5_9 := ho5_8.spanOut hs9 (.inl (Nat.le_refl _))
  have hw3_9 := hw3_8.spanOut hs9 (.inr (Nat.le_refl _))
  have hz8 : w3.heap.size ≤ w8.heap.size := Nat.le_trans hg4.size (Nat.le_trans hg5.size hg58.size)
  have hB9 : Below w.heap.size w w9 := (gb_below hG8).trans ((hs9.below hz8).mono (Nat.le_trans hG2.size hg3.size))
  obtain ⟨C, hC⟩ : ∃ C, cntPc 1 bs = C := ⟨_, rfl⟩
  rw [hC]
  have hCn : ¬ ((C : Nat) : Int) < 0 := by omega
  clear hC ho9 ho4_8
  go_wp2_with fail
  refine (c_eqPctS _ _ _ _ _ _ _ _ V V _ ho5_9.recs hw3_9.recs).mono ?_
  rintro e w10 ⟨rfl, hg10⟩
  have ho5_10 := ho5_9.keep hg10
  have hw3_10 := hw3_9.keep hg10
  go_wp2_with fail
  refine (c_markPctS _ _ _ _ _ 1 V _ _ ho5_10 (by omega) Hcv2.out).mono ?_
  rintro e w11 ⟨rfl, hs11, ho11⟩
  have hz9 : w4.heap.size ≤ w10.heap.size := Nat.le_trans hg5.size (Nat.le_trans hg58.size (Nat.le_trans hs9.size hg10.size))
  have hw3_11 := hw3_10.spanOut hs11 (.inr hg4.size)
  have hB10 := below_gbn hB9 hg10 hB9.size
  have hB11 : Below w.heap.size w w11 := hB10.trans ((hs11.below hz9).mono hG4.size)
  obtain ⟨M, hM⟩ : ∃ M : Nat, cntPc 1 V = M := ⟨_, rfl⟩
  have hMn : ¬ ((M : Nat) : Int) < 0 := by omega
  have hMM : (((M : Nat) : Int) != ((M : Nat) : Int)) = false := by simp
  have HM := Lib.hid hM
  rw [hM]
  clear hM
  go_wp2_with fail
  refine (c_heldPctS _ _ _ _ 1 V _ ho11.recs (by omega) Hcv2.out).mono ?_
  rintro e w12 ⟨rfl, hg12⟩
  rw [HM.out]
  have hB12 := below_gbn hB11 hg12 hB11.size
  go_wp2_with fail
  refine (c_toPctS 0 a0 len0 cap0 bs _ (Recs.below h hB12 (Nat.le_refl _)) hlen Hl2.out).mono ?_
  rintro e w13 ⟨rfl, hg13, hs13, ho13⟩
  go_wp2_with fail
  refine (c_impl_PrecinctsPublish _ _ _ _ bs least _ ho13.recs hg13.size (by omega) Ht.out).mono ?_
  rintro e w14 ⟨B14, c14, h14, rfl, hg14, ho14⟩
  rw [HV.out, Hm.out] at ho14
  rw [HV.out, HO.out, Hm.out]
  have hg1214 := gb_trans hg13 hg14
  have hw3_14 := (hw3_11.keep hg12).keep hg1214
  have ho11_14 := (ho11.keep hg12).keep hg1214
  have hB14 := below_gbn hB12 hg1214 hB12.size
  clear ho13
  go_wp2_with fail
  refine (c_eqPctS _ _ _ _ _ _ _ _ V V _ ho14.recs hw3_14.recs).mono ?_
  rintro e w15 ⟨rfl, hg15⟩
  go_wp2_with fail
  refine (c_heldPctS _ _ _ _ 1 V _ (ho11_14.keep hg15).recs (by omega) Hcv2.out).mono ?_
  rintro e w16 ⟨rfl, hg16⟩
  rw [HM.out]
  go_wp2
  go_ret
  exact ⟨rfl, below_gbn hB14 (gb_trans hg15 hg16) hB14.size⟩
end Go.Proofs.Ytifmljckmjnpfaa.lawFnExactPrecinctsPublish
