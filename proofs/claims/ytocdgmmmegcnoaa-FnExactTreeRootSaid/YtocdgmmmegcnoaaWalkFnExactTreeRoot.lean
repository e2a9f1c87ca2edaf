/-
  The walk of the law FnExactTreeRoot: the program's root and the reference's agree, and the list handed in is left alone.
-/
import Derived.Test.YtocdgmmmegcnoaaRoot
namespace Go.Proofs.Ytocdgmmmegcnoaa.lawFnExactTreeRoot
open Go.RowKit
set_option linter.unusedVariables false

set_option maxHeartbeats 1000000 in
theorem walk (a0 : Option Addr) (len0 cap0 : Nat) (z0 : List ByteArray) (w : World) (w0 : len0 ≤ cap0 ∧ cap0 ≤ maxLen ∧ (∀ s ∈ z0, s.size ≤ maxLen) ∧ Rd w 0 1 a0 len0 (z0.map Value.string)) :
    Calls Try.prog 8 #[.slice a0 len0 cap0] w fun e w' => e = .returned (.bool true) ∧ Below w.heap.size w w' := by
  have hI : Strs w 0 a0 len0 cap0 z0 := ⟨w0.1, w0.2.1, w0.2.2.2⟩
  have hxl := Lib.hid hI.len
  have Hs := Lib.hid w0.2.2.1
  clear w0
  obtain ⟨L, hL⟩ : ∃ L, sizesLeft 1048576 z0 = L := ⟨_, rfl⟩
  by_cases hneg : L < 0
  · go_enter Try.func8, Try.ntmps8
    go_wp2_with fail
    refine (c_szStringS 0 _ _ _ z0 _ _ hI Hs.out (by omega) (by omega)).mono ?_
    rintro e w1 ⟨rfl, d, rfl⟩
    rw [hL]
    go_wp2
    go_ret
    exact ⟨rfl, gb_below (gb_drewN (gb_refl _ _) d)⟩
  · have hfit := sizesLeft_fit (left := 1048576) (ss := z0) (by rw [hL]; exact hneg)
    rw [hxl.out] at hfit
    obtain ⟨hlen, hsz⟩ := hfit
    have Hsz : Hid (∀ s ∈ z0, s.size ≤ 2000000) := Lib.hid (fun s hs => by have := hsz s hs; omega)
    have hlen2 : len0 ≤ 2000000 := by omega
    have hpos : 0 ≤ L := by omega
    clear hsz hlen
    go_enter Try.func8, Try.ntmps8
    go_wp2_with fail
    refine (c_szStringS 0 _ _ _ z0 _ _ hI Hs.out (by omega) (by omega)).mono ?_
    rintro e w1 ⟨rfl, d, rfl⟩
    rw [hL]
    clear hL
    have hG1 := gb_drewN (gb_refl w none) d
    go_wp2_with fail
    refine (c_toStringS 0 _ _ _ z0 _ (Sl.keep0 hI hG1) (by omega)).mono ?_
    rintro e w1 ⟨rfl, hg1, ho1⟩
    have hG1 := gb_trans hG1 hg1
    go_wp2_with fail
    refine (c_spec_TreeRoot _ _ _ _ z0 _ (Sl.own ho1) Hsz.out).mono ?_
    rintro e w2 ⟨rfl, hg2⟩
    have hG2 := gb_trans hG1 hg2
    go_wp2_with fail
    refine (c_toStringS 0 _ _ _ z0 _ (Sl.keep0 hI hG2) (by omega)).mono ?_
    rintro e w3 ⟨rfl, hg3, ho3⟩
    have hG3 := gb_trans hG2 hg3
    go_wp2_with fail
    refine (c_impl_TreeRoot _ _ _ _ z0 _ (Sl.own ho3) Hsz.out).mono ?_
    rintro e w4 ⟨rfl, hg4⟩
    have hG4 := gb_trans hG3 hg4
    go_wp2_with fail
    refine (c_toStringS 0 _ _ _ z0 _ (Sl.keep0 hI hG4) (by omega)).mono ?_
    rintro e w5 ⟨rfl, hg5, ho5⟩
    have hG5 := gb_trans hG4 hg5
    go_wp2_with fail
    refine (c_eqStringS _ _ _ _ _ _ _ _ z0 z0 _ (Sl.keep0 (Sl.own ho3) (gb_trans hg4 hg5)) (Sl.own ho5)).mono ?_
    rintro e w6 ⟨rfl, d6, rfl⟩
    have hd : decide (z0 = z0) = true := by simp
    go_wp2
    go_ret
    exact ⟨rfl, gb_below (gb_drewN hG5 d6)⟩
end Go.Proofs.Ytocdgmmmegcnoaa.lawFnExactTreeRoot
