/-
  The walk of the law FnExactTreeProof: the program's proof and the reference's agree, the list handed in is left alone, the proof handed back is memory of its own.
-/
import Derived.Test.YtocdgmmmegcnoaaProof
import Derived.Test.YtocdgmmmegcnoaaMark
namespace Go.Proofs.Ytocdgmmmegcnoaa.lawFnExactTreeProof
open Go.RowKit
set_option linter.unusedVariables false

set_option maxHeartbeats 2000000 in
theorem walk (a0 : Option Addr) (len0 cap0 : Nat) (z0 : List ByteArray) (a1 : Int) (w : World) (w0 : len0 ≤ cap0 ∧ cap0 ≤ maxLen ∧ (∀ s ∈ z0, s.size ≤ maxLen) ∧ Rd w 0 1 a0 len0 (z0.map Value.string)) (w1 : (Lit.int .i64 a1).wf = true) :
    Calls Try.prog 10 #[.slice a0 len0 cap0, .int .i64 a1] w fun e w' => e = .returned (.bool true) ∧ Below w.heap.size w w' := by
  have hI : Strs w 0 a0 len0 cap0 z0 := ⟨w0.1, w0.2.1, w0.2.2.2⟩
  have hxl := Lib.hid hI.len
  have Hs := Lib.hid w0.2.2.1
  clear w0 w1
  obtain ⟨L, hL⟩ : ∃ L, sizesLeft 1048576 z0 = L := ⟨_, rfl⟩
  by_cases hneg : L < 0
  · go_enter Try.func10, Try.ntmps10
    go_wp2_with fail
    refine (c_szStringS 0 _ _ _ z0 _ _ hI Hs.out (by omega) (by omega)).mono ?_
    rintro e w1 ⟨rfl, d, rfl⟩
    rw [hL]
    go_wp2
    go_ret
    exact ⟨rfl, gb_below (gb_drewN (gb_refl _ _) d)⟩
  · have hfit := sizesLeft_fit (left := 1048576) (ss := z0) (by rw [hL]; exact hneg)
    rw [hxl.out] at hfit
    obtain ⟨hlen, hsz⟩ := hfit
    have Hsz : Hid (∀ s ∈ z0, s.size ≤ 2000000) := Lib.hid (fun s hs => by have := hsz s hs; omega)
    have hlen2 : len0 ≤ 2000000 := by omega
    have hpos : 0 ≤ L := by omega
    clear hsz
    obtain ⟨P, hP⟩ : ∃ P, proofOK z0 a1 = P := ⟨_, rfl⟩
    obtain ⟨zs, hzs⟩ : ∃ zs, treeProof z0 a1 = zs := ⟨_, rfl⟩
    have hzl : Hid (zs.length ≤ 3) := Lib.hid (by rw [← hzs]; exact treeProof_short _ _)
    have HP := Lib.hid hP
    have HZ := Lib.hid hzs
    have hPP : (P != P) = false := by simp
    have hdz : decide (zs = zs) = true := by simp
    have hds : decide (z0 = z0) = true := by simp
    clear hP hzs
    go_enter Try.func10, Try.ntmps10
    go_wp2_with fail
    refine (c_szStringS 0 _ _ _ z0 _ _ hI Hs.out (by omega) (by omega)).mono ?_
    rintro e w1 ⟨rfl, d, rfl⟩
    rw [hL]
    clear hL
    have hG1 := gb_drewN (gb_refl w none) d
    go_wp2_with fail
    refine (c_toStringS 0 _ _ _ z0 _ (Sl.keep0 hI hG1) (by omega)).mono ?_
    rintro e w1 ⟨rfl, hg1, ho1⟩
    have hG1 := gb_trans hG1 hg1
    go_wp2_with fail
    refine (c_spec_TreeProof _ _ _ _ z0 a1 _ (Sl.own ho1) Hsz.out).mono ?_
    rintro e w2 ⟨A2, m2, c2, rfl, hg2, ho2⟩
    rw [HZ.out] at ho2
    rw [HP.out]
    have hG2 := gb_trans hG1 hg2
    go_wp2_with fail
    refine (c_toStringS 0 _ _ _ z0 _ (Sl.keep0 hI hG2) (by omega)).mono ?_
    rintro e w3 ⟨rfl, hg3, ho3⟩
    have hG3 := gb_trans hG2 hg3
    have ho2_3 := own_below ho2 hg3
    go_wp2_with fail
    refine (c_impl_TreeProof _ _ _ _ z0 a1 _ (Sl.own ho3) Hsz.out).mono ?_
    rintro e w4 ⟨A4, m4, c4, rfl, hg4, ho4⟩
    rw [HZ.out] at ho4
    rw [HP.out]
    have hG4 := gb_trans hG3 hg4
    have ho2_4 := own_below ho2_3 hg4
    have ho3_4 := own_below ho3 hg4
    have hm4 : m4 ≤ 3 := by have := own_len ho4; have := hzl.out; omega
    go_wp2_with fail
    refine (c_eqIntS _ _ _ _ _ _ _ _ zs zs _ (Sl.own ho4) (Sl.own ho2_4)).mono ?_
    rintro e w5 ⟨rfl, d5, rfl⟩
    have hG5 := gb_drewN hG4 d5
    go_wp2_with fail
    refine (c_toStringS 0 _ _ _ z0 _ (Sl.keep0 hI hG5) (by omega)).mono ?_
    rintro e w6 ⟨rfl, hg6, ho6⟩
    have hg46 : w4.grownBy w6 none := gb_trans (gb_drewN (gb_refl w4 none) d5) hg6
    have hG6 := gb_trans hG5 hg6
    have ho2_6 := own_below ho2_4 hg46
    have ho3_6 := own_below ho3_4 hg46
    have ho4_6 := own_below ho4 hg46
    go_wp2_with fail
    refine (c_eqStringS _ _ _ _ _ _ _ _ z0 z0 _ (Sl.own ho3_6) (Sl.own ho6)).mono ?_
    rintro e w7 ⟨rfl, d7, rfl⟩
    have hG7 := gb_drewN hG6 d7
    have hs3 := hg3.size
    have hs2 := hG2.size
    have hs4 := hG3.size
    go_wp2_with fail
    refine (c_markStringS _ _ _ _ z0 _ (own_drewN ho3_6 d7) (by omega) (Nat.le_trans hs3 (Nat.le_trans hg4.size hg46.size))).mono ?_
    rintro e w8 ⟨rfl, hg8⟩
    have hg8' : (w6.drewN d7).grownBy w8 (some w2.heap.size) := hg8
    clear hg8
    have hx3 := ho3.lt w2.heap.size rfl
    have hl2 := ho2.lt
    have hl4 := ho4.lt
    have ho4_8 := own_kept (own_drewN ho4_6 d7) hg8' (fun k e => by injection e with e; left; omega)
    have ho2_8 := own_kept (own_drewN ho2_6 d7) hg8' (fun k e => by injection e with e; right; intro e'; have := hl2 k e'; omega)
    have hG8 := gb_step hG7 hg8' (fun g e => by injection e with e; right; omega)
    go_wp2_with fail
    refine (c_eqIntS _ _ _ _ _ _ _ _ zs zs _ (Sl.own ho4_8) (Sl.own ho2_8)).mono ?_
    rintro e w9 ⟨rfl, d9, rfl⟩
    have hG9 := gb_drewN hG8 d9
    go_wp2_with fail
    refine (c_markIntS _ _ _ _ zs _ (own_drewN ho4_8 d9) (by omega)).mono ?_
    rintro e w10 ⟨rfl, hg10, ho10⟩
    have hG10 := gb_step hG9 hg10 (fun g e => by right; have := hl4 g e; omega)
    have ho2_10 := own_kept (own_drewN ho2_8 d9) hg10 (fun k e => by right; intro e'; have := hl2 k e'; have := hl4 k e; omega)
    go_wp2_with fail
    refine (c_heldIntS _ _ _ _ _ (Sl.own ho10) (by omega)).mono ?_
    rintro e w11 ⟨rfl, d11, rfl⟩
    have hmm : (((m4 + 1 : Nat) : Int) != ((m4 + 1 : Nat) : Int)) = false := by simp
    go_wp2_with fail
    refine (c_toStringS 0 _ _ _ z0 _ (Sl.keep0 hI (gb_drewN hG10 d11)) (by omega)).mono ?_
    rintro e w12 ⟨rfl, hg12, ho12⟩
    go_wp2_with fail
    refine (c_impl_TreeProof _ _ _ _ z0 a1 _ (Sl.own ho12) Hsz.out).mono ?_
    rintro e w13 ⟨A13, m13, c13, rfl, hg13, ho13⟩
    rw [HZ.out] at ho13
    rw [HP.out]
    have hg1013 : w10.grownBy w13 none := gb_trans (gb_trans (gb_drewN (gb_refl w10 none) d11) hg12) hg13
    have hG13 := gb_trans hG10 hg1013
    have ho2_13 := own_below ho2_10 hg1013
    have ho4_13 := own_below ho10 hg1013
    go_wp2_with fail
    refine (c_eqIntS _ _ _ _ _ _ _ _ zs zs _ (Sl.own ho13) (Sl.own ho2_13)).mono ?_
    rintro e w14 ⟨rfl, d14, rfl⟩
    go_wp2_with fail
    refine (c_heldIntS _ _ _ _ _ (Sl.own (own_drewN ho4_13 d14)) (by omega)).mono ?_
    rintro e w15 ⟨rfl, d15, rfl⟩
    go_wp2
    go_ret
    exact ⟨rfl, gb_below (gb_drewN hG13 (d14 + d15))⟩
end Go.Proofs.Ytocdgmmmegcnoaa.lawFnExactTreeProof
