/-
  The walk of the law FnExactBatchesMerge: the program's BatchesMerge returns what the reference's returns, in memory of its own, and leaves its arguments.
-/
import Derived.Test.YtdhkhlemdlibfaaDrawMerge
import Derived.Test.YtdhkhlemdlibfaaBatchKit
import Derived.Test.YtdhkhlemdlibfaaMarkBatch
import Derived.Test.YtdhkhlemdlibfaaMark
import Derived.Test.YtdhkhlemdlibfaaRecArgs
namespace Go.Proofs.Ytdhkhlemdlibfaa.lawFnExactBatchesMerge
open Go.RowKit
set_option linter.unusedVariables false

theorem cntBt_ge (k : Nat) (bs : List Bt) : k ≤ cntBt k bs := by
  induction bs generalizing k with
  | nil => exact Nat.le_refl _
  | cons b bs ih =>
    have := ih (k + 2 + 2 * b.2.2.length)
    show k ≤ cntBt (k + 2 + 2 * b.2.2.length) bs
    omega

set_option maxHeartbeats 4000000 in
theorem walk (a0 : Option Addr) (len0 cap0 : Nat) (cs : List Bt) (a1 : Option Addr) (len1 cap1 : Nat) (bs : List Bt) (w : World) (h : RecsWf btRec cs ∧ Bats w 0 a0 len0 cap0 cs) (h' : RecsWf btRec bs ∧ Bats w 0 a1 len1 cap1 bs) :
    Calls Try.prog 6 #[.slice a0 len0 cap0, .slice a1 len1 cap1] w fun e w' => e = .returned (.bool true) ∧ Below w.heap.size w w' := by
  obtain ⟨hw, h⟩ := h
  obtain ⟨hw', h'⟩ := h'
  have Hw : Hid (RecsWf0 btRec cs) := Lib.hid (fun x hx p hp => (hw x hx p hp).2)
  have Hw' : Hid (RecsWf0 btRec bs) := Lib.hid (fun x hx p hp => (hw' x hx p hp).2)
  clear hw hw'
  go_enter Try.func6, Try.ntmps6
  go_wp2_with fail
  refine (c_szBatchS 0 a0 len0 cap0 cs 1048576 _ h Hw.out (by omega) (by omega)).mono ?_
  rintro e w1 ⟨r, rfl, hr1, hr, hg1⟩
  by_cases hr0 : r < 0
  · go_wp2
    go_ret
    exact ⟨rfl, gb_below hg1⟩
  obtain ⟨hr2, hr3, hl, ht⟩ := (show 0 ≤ r ∧ r ≤ 1048576 ∧ _ ∧ _ from by rcases hr with hr | hr; exact absurd hr hr0; exact hr)
  have Hl1 : Hid (∀ b ∈ cs, b.2.2.length ≤ 1048576) := Lib.hid (fun b hb => by have h1 : ((b.2.2).length : Int) ≤ 1048576 := (ht b hb).1; omega)
  have Hl2 : Hid (∀ b ∈ cs, b.2.2.length ≤ 2000000) := Lib.hid (fun b hb => by have := Hl1.out b hb; omega)
  have Ht : Hid (∀ b ∈ cs, ∀ p ∈ b.2.2, p.1.size ≤ 2000000) := Lib.hid (fun b hb p hp => by have h1 : (p.1.size : Int) ≤ 1048576 := (ht b hb).2 p hp; omega)
  have hlen0 : len0 ≤ 1000000 ∨ 1000000 < len0 := by omega
  have hlen00 : len0 ≤ 1048576 := by have := h.len; omega
  clear hr ht hl
  go_wp2_with fail
  refine (c_szBatchS 0 a1 len1 cap1 bs r _ (Recs.keep0 h' hg1) Hw'.out (by omega) (by omega)).mono ?_
  rintro e w2 ⟨r', rfl, hr1', hr', hg2⟩
  have hG2 := gb_trans hg1 hg2
  by_cases hr0' : r' < 0
  · go_wp2
    go_ret
    exact ⟨rfl, gb_below hG2⟩
  obtain ⟨hr2', hr3', hl', ht'⟩ := (show 0 ≤ r' ∧ r' ≤ r ∧ _ ∧ _ from by rcases hr' with hr | hr; exact absurd hr hr0'; exact hr)
  have Hl1' : Hid (∀ b ∈ bs, b.2.2.length ≤ 1048576) := Lib.hid (fun b hb => by have h1 : ((b.2.2).length : Int) ≤ r := (ht' b hb).1; omega)
  have Hl2' : Hid (∀ b ∈ bs, b.2.2.length ≤ 2000000) := Lib.hid (fun b hb => by have := Hl1'.out b hb; omega)
  have Ht' : Hid (∀ b ∈ bs, ∀ p ∈ b.2.2, p.1.size ≤ 2000000) := Lib.hid (fun b hb p hp => by have h1 : (p.1.size : Int) ≤ r := (ht' b hb).2 p hp; omega)
  have hlen1 : len1 ≤ 1048576 := by have := h'.len; omega
  have Hcb0 : Hid (cntBt 1 cs ≤ 3000000000000) := Lib.hid (by
    have := cntBt_le 1 1048576 1048576 cs (by have := h.len; omega) Hl1.out
    omega)
  have Hcb1 : Hid (cntBt (cntBt 1 cs) bs ≤ 10000000000000) := Lib.hid (by
    have := cntBt_le (cntBt 1 cs) 1048576 1048576 bs (by have := h'.len; omega) Hl1'.out
    have := Hcb0.out
    omega)
  have hvl := bmRes_len cs bs
  have hvp := bmRes_piles cs bs
  obtain ⟨V, hV⟩ : ∃ V, bmRes cs bs = V := ⟨_, rfl⟩
  have HV := Lib.hid hV
  rw [hV] at hvl hvp
  have Hcv : Hid (cntBt 1 V ≤ 10000000000000) := Lib.hid (by
    have := cntBt_le 1 8 12 V hvl hvp
    omega)
  obtain ⟨O, hO⟩ : ∃ O, bmOK cs bs = O := ⟨_, rfl⟩
  have HO := Lib.hid hO
  clear hr' ht' hl' hV hO hvp hlen0
  have hdV : decide (V = V) = true := by simp
  have hOO : (O != O) = false := by simp
  have hdB : decide (bs = bs) = true := by simp
  have hdC : decide (cs = cs) = true := by simp
  go_wp2_with fail
  refine (c_toBatchS 0 a0 len0 cap0 cs _ (Recs.keep0 h hG2) (by omega) Hl2.out).mono ?_
  rintro e w3 ⟨rfl, hg3, hs3, ho3⟩
  have hG3 := gb_trans hG2 hg3
  go_wp2_with fail
  refine (c_toBatchS 0 a1 len1 cap1 bs _ (Recs.keep0 h' hG3) (by omega) Hl2'.out).mono ?_
  rintro e w4 ⟨rfl, hg4, hs4, ho4⟩
  have hG4 := gb_trans hG3 hg4
  go_wp2_with fail
  refine (c_spec_BatchesMerge _ _ _ _ _ _ _ _ cs bs _ (ho3.keep hg4).recs ho4.recs (by omega) (by omega) Ht.out Ht'.out).mono ?_
  rintro e w5 ⟨D5, m, c5, h5, rfl, hg5, hw5⟩
  rw [HV.out] at hw5
  rw [HO.out]
  have hm : V.length = m := hw5.xlen
  have Hm := Lib.hid hm
  have hm8 : m ≤ 8 := by omega
  have hG5 := gb_trans hG4 hg5
  clear ho3 ho4 hm hvl
  go_wp2_with fail
  refine (c_toBatchS 0 a0 len0 cap0 cs _ (Recs.keep0 h hG5) (by omega) Hl2.out).mono ?_
  rintro e w6 ⟨rfl, hg6, hs6, ho6⟩
  have hG6 := gb_trans hG5 hg6
  go_wp2_with fail
  refine (c_toBatchS 0 a1 len1 cap1 bs _ (Recs.keep0 h' hG6) (by omega) Hl2'.out).mono ?_
  rintro e w7 ⟨rfl, hg7, hs7, ho7⟩
  have hG7 := gb_trans hG6 hg7
  have ho6' := ho6.keep hg7
  go_wp2_with fail
  refine (c_impl_BatchesMerge _ _ _ _ _ _ _ _ cs bs _ ho6'.recs ho7.recs Ht.out Ht'.out).mono ?_
  rintro e w8 ⟨D8, m8, c8, h8, rfl, hg8, ho8⟩
  rw [HV.out] at ho8
  rw [HO.out]
  obtain rfl : m8 = m := by rw [← ho8.xlen, Hm.out]
  have hG8 := gb_trans hG7 hg8
  have hw5_8 := hw5.keep (gb_trans hg6 (gb_trans hg7 hg8))
  go_wp2_with fail
  refine (c_eqBatchS _ _ _ _ _ _ _ _ V V _ ho8.recs hw5_8.recs).mono ?_
  rintro e w9 ⟨rfl, hg9⟩
  have hG9 := gb_trans hG8 hg9
  go_wp2_with fail
  refine (c_toBatchS 0 a0 len0 cap0 cs _ (Recs.keep0 h hG9) (by omega) Hl2.out).mono ?_
  rintro e w10 ⟨rfl, hg10, hs10, ho10⟩
  have hG10 := gb_trans hG9 hg10
  have ho6_10 := ho6'.keep (gb_trans hg8 (gb_trans hg9 hg10))
  go_wp2_with fail
  refine (c_eqBatchS _ _ _ _ _ _ _ _ cs cs _ ho6_10.recs ho10.recs).mono ?_
  rintro e w11 ⟨rfl, hg11⟩
  have hG11 := gb_trans hG10 hg11
  clear ho10
  go_wp2_with fail
  refine (c_toBatchS 0 a1 len1 cap1 bs _ (Recs.keep0 h' hG11) (by omega) Hl2'.out).mono ?_
  rintro e w12 ⟨rfl, hg12, hs12, ho12⟩
  have hG12 := gb_trans hG11 hg12
  have hg8_12 := gb_trans hg9 (gb_trans hg10 (gb_trans hg11 hg12))
  have ho7_12 := ho7.keep (gb_trans hg8 hg8_12)
  go_wp2_with fail
  refine (c_eqBatchS _ _ _ _ _ _ _ _ bs bs _ ho7_12.recs ho12.recs).mono ?_
  rintro e w13 ⟨rfl, hg13⟩
  have hG13 := gb_trans hG12 hg13
  have hg8_13 := gb_trans hg8_12 hg13
  have ho6_13 := ho6_10.keep (gb_trans hg11 (gb_trans hg12 hg13))
  have ho7_13 := ho7_12.keep hg13
  have ho8_13 := ho8.keep hg8_13
  have hw5_13 := hw5_8.keep hg8_13
  have hz13 : w5.heap.size ≤ w13.heap.size := Nat.le_trans hg6.size (Nat.le_trans hg7.size (Nat.le_trans hg8.size hg8_13.size))
  have hz13' : w6.heap.size ≤ w13.heap.size := Nat.le_trans hg7.size (Nat.le_trans hg8.size hg8_13.size)
  have hz13'' : w7.heap.size ≤ w13.heap.size := Nat.le_trans hg8.size hg8_13.size
  have hz8 : w8.heap.size ≤ w13.heap.size := hg8_13.size
  have hz45 : w4.heap.size ≤ w5.heap.size := hg5.size
  have hz56 : w5.heap.size ≤ w6.heap.size := hg6.size
  have hz67 : w6.heap.size ≤ w7.heap.size := hg7.size
  have hz78 : w7.heap.size ≤ w8.heap.size := hg8.size
  have hzw5 : w.heap.size ≤ w5.heap.size := hG5.size
  clear ho12 ho6' ho6_10 ho7 ho7_12 ho6 ho8 hw5 hw5_8
  go_wp2_with fail
  refine (c_markBatchS _ _ _ _ _ 1 cs _ _ ho6_13 (by omega) (by have := Hcb0.out; omega)).mono ?_
  rintro e w14 ⟨rfl, hs14, ho14⟩
  have ho7_14 := ho7_13.spanOut hs14 (.inl (Nat.le_refl _))
  have ho8_14 := ho8_13.spanOut hs14 (.inl hz67)
  have hw5_14 := hw5_13.spanOut hs14 (.inr (Nat.le_refl _))
  have hB14 : Below w.heap.size w w14 := (gb_below hG13).trans ((hs14.below hz13).mono hzw5)
  have hz14 := hs14.size
  clear ho14
  go_wp2_with fail
  refine (c_markBatchS _ _ _ _ _ (cntBt 1 cs) bs _ _ ho7_14 (cntBt_ge 1 cs) Hcb1.out).mono ?_
  rintro e w15 ⟨rfl, hs15, ho15⟩
  have ho8_15 := ho8_14.spanOut hs15 (.inl (Nat.le_refl _))
  have hw5_15 := hw5_14.spanOut hs15 (.inr (by omega))
  have hB15 : Below w.heap.size w w15 := hB14.trans ((hs15.below (by omega)).mono (by omega))
  have hz15 := hs15.size
  obtain ⟨C, hC⟩ : ∃ C, cntBt (cntBt 1 cs) bs = C := ⟨_, rfl⟩
  rw [hC]
  have hCn : ¬ ((C : Nat) : Int) < 0 := by omega
  clear hC ho15 ho6_13 ho7_13 ho7_14 ho8_14 hw5_14 ho8_13 hw5_13
  go_wp2_with fail
  refine (c_eqBatchS _ _ _ _ _ _ _ _ V V _ ho8_15.recs hw5_15.recs).mono ?_
  rintro e w16 ⟨rfl, hg16⟩
  have ho8_16 := ho8_15.keep hg16
  have hw5_16 := hw5_15.keep hg16
  have hz16 := hg16.size
  go_wp2_with fail
  refine (c_markBatchS _ _ _ _ _ 1 V _ _ ho8_16 (by omega) Hcv.out).mono ?_
  rintro e w17 ⟨rfl, hs17, ho17⟩
  have hw5_17 := hw5_16.spanOut hs17 (.inr (by omega))
  have hB16 := below_gbn hB15 hg16 hB15.size
  have hB17 : Below w.heap.size w w17 := hB16.trans ((hs17.below (by omega)).mono (by omega))
  obtain ⟨M, hM⟩ : ∃ M : Nat, cntBt 1 V = M := ⟨_, rfl⟩
  have hMn : ¬ ((M : Nat) : Int) < 0 := by omega
  have hMM : (((M : Nat) : Int) != ((M : Nat) : Int)) = false := by simp
  have HM := Lib.hid hM
  rw [hM]
  clear hM
  go_wp2_with fail
  refine (c_heldBatchS _ _ _ _ 1 V _ ho17.recs (by omega) Hcv.out).mono ?_
  rintro e w18 ⟨rfl, hg18⟩
  rw [HM.out]
  have hB18 := below_gbn hB17 hg18 hB17.size
  go_wp2_with fail
  refine (c_toBatchS 0 a0 len0 cap0 cs _ (Recs.below h hB18 (Nat.le_refl _)) (by omega) Hl2.out).mono ?_
  rintro e w19 ⟨rfl, hg19, hs19, ho19⟩
  have hB19 := below_gbn hB18 hg19 hB18.size
  go_wp2_with fail
  refine (c_toBatchS 0 a1 len1 cap1 bs _ (Recs.below h' hB19 (Nat.le_refl _)) (by omega) Hl2'.out).mono ?_
  rintro e w20 ⟨rfl, hg20, hs20, ho20⟩
  go_wp2_with fail
  refine (c_impl_BatchesMerge _ _ _ _ _ _ _ _ cs bs _ (ho19.keep hg20).recs ho20.recs Ht.out Ht'.out).mono ?_
  rintro e w21 ⟨D21, m21, c21, h21, rfl, hg21, ho21⟩
  rw [HV.out] at ho21
  rw [HO.out]
  obtain rfl : m21 = m8 := by rw [← ho21.xlen, Hm.out]
  have hg1821 := gb_trans hg19 (gb_trans hg20 hg21)
  have hw5_21 := (hw5_17.keep hg18).keep hg1821
  have ho17_21 := (ho17.keep hg18).keep hg1821
  have hB21 := below_gbn hB18 hg1821 hB18.size
  clear ho19 ho20
  go_wp2_with fail
  refine (c_eqBatchS _ _ _ _ _ _ _ _ V V _ ho21.recs hw5_21.recs).mono ?_
  rintro e w22 ⟨rfl, hg22⟩
  go_wp2_with fail
  refine (c_heldBatchS _ _ _ _ 1 V _ (ho17_21.keep hg22).recs (by omega) Hcv.out).mono ?_
  rintro e w23 ⟨rfl, hg23⟩
  rw [HM.out]
  go_wp2
  go_ret
  exact ⟨rfl, below_gbn hB21 (gb_trans hg22 hg23) hB21.size⟩
end Go.Proofs.Ytdhkhlemdlibfaa.lawFnExactBatchesMerge
