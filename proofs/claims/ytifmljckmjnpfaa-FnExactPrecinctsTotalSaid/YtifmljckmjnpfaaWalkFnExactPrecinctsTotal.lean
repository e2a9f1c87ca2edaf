/-
  The walk of the law FnExactPrecinctsTotal: the program's PrecinctsTotal returns what the reference's returns, in memory of its own, and leaves its argument.
-/
import Derived.Test.YtifmljckmjnpfaaPctTotal
import Derived.Test.YtifmljckmjnpfaaPctKit
import Derived.Test.YtifmljckmjnpfaaMarkPct
import Derived.Test.YtifmljckmjnpfaaMark
import Derived.Test.YtifmljckmjnpfaaRecArgs
namespace Go.Proofs.Ytifmljckmjnpfaa.lawFnExactPrecinctsTotal
open Go.RowKit
set_option linter.unusedVariables false

theorem span_row {lo hi L m c : Nat} {e : TypeId} {B : Option Addr} {xs : List Value} {w w' : World} (h : w.ownsRow L e 2 (.slice B m c) m xs) (hs : Span lo hi w w') (hl : hi ≤ L) : w'.ownsRow L e 2 (.slice B m c) m xs := own_span (H := 0) h hs (.inl hl)

set_option maxHeartbeats 4000000 in
theorem walk (a0 : Option Addr) (len0 cap0 : Nat) (bs : List Pc) (w : World) (h : RecsWf pcRec bs ∧ Pcts w 0 a0 len0 cap0 bs) :
    Calls Try.prog 9 #[.slice a0 len0 cap0] w fun e w' => e = .returned (.bool true) ∧ Below w.heap.size w w' := by
  obtain ⟨hw, h⟩ := h
  have Hw : Hid (RecsWf0 pcRec bs) := Lib.hid (fun x hx p hp => (hw x hx p hp).2)
  clear hw
  go_enter Try.func9, Try.ntmps9
  go_wp2_with fail
  refine (c_szPctS 0 a0 len0 cap0 bs 1048576 _ h Hw.out (by omega) (by omega)).mono ?_
  rintro e w1 ⟨r, rfl, hr1, hr, hg1⟩
  by_cases hr0 : r < 0
  · go_wp2
    go_ret
    exact ⟨rfl, gb_below hg1⟩
  obtain ⟨hr2, hr3, hl, ht⟩ := (show 0 ≤ r ∧ r ≤ 1048576 ∧ _ ∧ _ from by rcases hr with hr | hr; exact absurd hr hr0; exact hr)
  have Hl : Hid (∀ b ∈ bs, b.2.length ≤ 1048576) := Lib.hid (fun b hb => by have h1 : ((b.2).length : Int) ≤ 1048576 := (ht b hb).1; omega)
  have Hl1 : Hid (∀ b ∈ bs, b.2.length ≤ 1100000) := Lib.hid (fun b hb => by have := Hl.out b hb; omega)
  have Hl2 : Hid (∀ b ∈ bs, b.2.length ≤ 2000000) := Lib.hid (fun b hb => by have := Hl.out b hb; omega)
  have Ht : Hid (∀ b ∈ bs, ∀ p ∈ b.2, p.1.size ≤ 2000000) := Lib.hid (fun b hb p hp => by have h1 : (p.1.size : Int) ≤ 1048576 := (ht b hb).2 p hp; omega)
  have hlen0 : len0 ≤ 1048576 := by have := h.len; omega
  have hlen : len0 ≤ 1500000 := by omega
  have Hcb : Hid (cntPc 1 bs ≤ 10000000000000) := Lib.hid (by
    have := cntPc_le 1 1048576 1048576 bs (by have := h.len; omega) Hl.out
    omega)
  obtain ⟨V, hV⟩ : ∃ V, ptotRes bs = V := ⟨_, rfl⟩
  have HV := Lib.hid hV
  obtain ⟨O, hO⟩ : ∃ O, ptotOK bs = O := ⟨_, rfl⟩
  have HO := Lib.hid hO
  obtain ⟨m, hm⟩ : ∃ m, V.length = m := ⟨_, rfl⟩
  have Hm := Lib.hid hm
  have hm1 : m ≤ 96 := by
    rw [← hm, ← hV, ptotRes]
    split
    · rename_i hok
      unfold ptotOK at hok
      rw [Bool.and_eq_true] at hok
      have h1 := (pcts_small (pctsOK_piles hok.1) (pctsOK_len hok.1)).2
      have h2 := canon_len (pctEs bs)
      omega
    · exact Nat.zero_le _
  clear hr ht hl hV hO hm
  have hdV : decide (V = V) = true := by simp
  have hdB : decide (bs = bs) = true := by simp
  have hOO : (O != O) = false := by simp
  have hOO2 : (O == O) = true := by simp
  go_wp2_with fail
  refine (c_toPctS 0 a0 len0 cap0 bs _ (Recs.keep0 h hg1) hlen Hl2.out).mono ?_
  rintro e w2 ⟨rfl, hg2, hs2, ho2⟩
  have hG2 := gb_trans hg1 hg2
  go_wp2_with fail
  refine (c_spec_PrecinctsTotal _ _ _ _ bs _ ho2.recs hg2.size (by omega) Hl1.out Ht.out).mono ?_
  rintro e w3 ⟨B3, c3, rfl, hg3, hw3⟩
  rw [HV.out, Hm.out] at hw3
  rw [HV.out, HO.out, Hm.out]
  have hG3 := gb_trans hG2 hg3
  clear ho2
  go_wp2_with fail
  refine (c_toPctS 0 a0 len0 cap0 bs _ (Recs.keep0 h hG3) hlen Hl2.out).mono ?_
  rintro e w4 ⟨rfl, hg4, hs4, ho4⟩
  have hG4 := gb_trans hG3 hg4
  go_wp2_with fail
  refine (c_impl_PrecinctsTotal _ _ _ _ bs _ ho4.recs hg4.size (by omega) Ht.out).mono ?_
  rintro e w5 ⟨B5, c5, rfl, hg5, ho5⟩
  rw [HV.out, Hm.out] at ho5
  rw [HV.out, HO.out, Hm.out]
  have hG5 := gb_trans hG4 hg5
  have hI3 : Piles w5 w2.heap.size B3 m c3 V := Sl.keep0 (Sl.own hw3) (gb_trans hg4 hg5)
  go_wp2_with fail
  refine (c_eqPileS _ _ _ _ _ _ _ _ V V _ (Sl.own ho5) hI3).mono ?_
  rintro e w6 ⟨rfl, hg6⟩
  go_wp2_with fail
  refine (c_toPctS 0 a0 len0 cap0 bs _ (Recs.keep0 h (gb_trans hG5 hg6)) hlen Hl2.out).mono ?_
  rintro e w7 ⟨rfl, hg7, hs7, ho7⟩
  have hg57 := gb_trans hg6 hg7
  have ho4_7 := ho4.keep (gb_trans hg5 hg57)
  go_wp2_with fail
  refine (c_eqPctS _ _ _ _ _ _ _ _ bs bs _ ho4_7.recs ho7.recs).mono ?_
  rintro e w8 ⟨rfl, hg8⟩
  have hg58 := gb_trans hg57 hg8
  have ho4_8 := ho4_7.keep hg8
  have ho5_8 := own_below ho5 hg58
  have hw3_8 := own_below hw3 (gb_trans hg4 (gb_trans hg5 hg58))
  have hG8 := gb_trans hG5 hg58
  clear ho7 ho4_7 ho4 hI3
  go_wp2_with fail
  refine (c_markPctS _ _ _ _ _ 1 bs _ _ ho4_8 (by omega) Hcb.out).mono ?_
  rintro e w9 ⟨rfl, hs9, ho9⟩
  have ho5_9 := span_row ho5_8 hs9 (Nat.le_refl _)
  have hw3_9 := own_span (H := 0) hw3_8 hs9 (.inr (fun g e => by have := (hw3.lt g e).2; omega))
  have hz8 : w3.heap.size ≤ w8.heap.size := Nat.le_trans hg4.size (Nat.le_trans hg5.size hg58.size)
  have hB9 : Below w.heap.size w w9 := (gb_below hG8).trans ((hs9.below hz8).mono (Nat.le_trans hG2.size hg3.size))
  obtain ⟨C, hC⟩ : ∃ C, cntPc 1 bs = C := ⟨_, rfl⟩
  rw [hC]
  have hCn : ¬ ((C : Nat) : Int) < 0 := by omega
  clear hC ho9 ho4_8
  go_wp2_with fail
  refine (c_eqPileS _ _ _ _ _ _ _ _ V V _ (Sl.own ho5_9) (Sl.own hw3_9)).mono ?_
  rintro e w10 ⟨rfl, hg10⟩
  have ho5_10 := own_below ho5_9 hg10
  have hw3_10 := own_below hw3_9 hg10
  go_wp2_with fail
  refine (c_markPileS _ _ _ _ 1 V _ ho5_10 Hm.out (by omega) (by omega)).mono ?_
  rintro e w11 ⟨rfl, hg11, ho11⟩
  have hz9 : w4.heap.size ≤ w10.heap.size := Nat.le_trans hg5.size (Nat.le_trans hg58.size (Nat.le_trans hs9.size hg10.size))
  have hrow : ∀ g, (Value.slice B5 m c5).ownBlock = some g → w4.heap.size ≤ g := fun g e => (ho5.lt g e).1
  have hw3_11 := hw3_10.kept hg11 (by
    cases hb : (Value.slice B3 m c3).ownBlock with
    | none => exact .inl rfl
    | some g =>
      refine .inr (fun e => ?_)
      have h1 := (hw3.lt g hb).2
      have h2 := hrow g e.symm
      have h3 := hg4.size
      omega)
  have hB10 := below_gbn hB9 hg10 hB9.size
  have hB11 : Below w.heap.size w w11 := hB10.trans ⟨hg11.os, hg11.tape, hg11.output, hg11.size, fun k hk => hg11.block k (Nat.lt_of_lt_of_le hk (Nat.le_trans hG4.size hz9)) (fun e => by
    have := hrow k e.symm
    have := hG4.size
    omega)⟩
  obtain ⟨M, hM⟩ : ∃ M : Nat, 1 + 2 * m = M := ⟨_, rfl⟩
  have hMn : ¬ ((M : Nat) : Int) < 0 := by omega
  have hMM : (((M : Nat) : Int) != ((M : Nat) : Int)) = false := by simp
  have HM := Lib.hid hM
  rw [hM]
  clear hM
  go_wp2_with fail
  refine (c_heldPileS _ _ _ _ 1 _ (Sl.own ho11) (by omega) (by omega)).mono ?_
  rintro e w12 ⟨rfl, hg12⟩
  rw [HM.out]
  have hB12 := below_gbn hB11 hg12 hB11.size
  go_wp2_with fail
  refine (c_toPctS 0 a0 len0 cap0 bs _ (Recs.below h hB12 (Nat.le_refl _)) hlen Hl2.out).mono ?_
  rintro e w13 ⟨rfl, hg13, hs13, ho13⟩
  go_wp2_with fail
  refine (c_impl_PrecinctsTotal _ _ _ _ bs _ ho13.recs hg13.size (by omega) Ht.out).mono ?_
  rintro e w14 ⟨B14, c14, rfl, hg14, ho14⟩
  rw [HV.out, Hm.out] at ho14
  rw [HV.out, HO.out, Hm.out]
  have hg1214 := gb_trans hg13 hg14
  have hw3_14 := own_below (own_below hw3_11 hg12) hg1214
  have ho11_14 := own_below (own_below ho11 hg12) hg1214
  have hB14 := below_gbn hB12 hg1214 hB12.size
  clear ho13
  go_wp2_with fail
  refine (c_eqPileS _ _ _ _ _ _ _ _ V V _ (Sl.own ho14) (Sl.own hw3_14)).mono ?_
  rintro e w15 ⟨rfl, hg15⟩
  go_wp2_with fail
  refine (c_heldPileS _ _ _ _ 1 _ (Sl.own (own_below ho11_14 hg15)) (by omega) (by omega)).mono ?_
  rintro e w16 ⟨rfl, hg16⟩
  rw [HM.out]
  go_wp2
  go_ret
  exact ⟨rfl, below_gbn hB14 (gb_trans hg15 hg16) hB14.size⟩
end Go.Proofs.Ytifmljckmjnpfaa.lawFnExactPrecinctsTotal
