/-
  The walk of the law FnLeafSum: a leaf knows its number.
-/
import Derived.Test.YtocdgmmmegcnoaaDrawLeaf
import Derived.Test.YtocdgmmmegcnoaaLeaf
namespace Go.Proofs.Ytocdgmmmegcnoaa.lawFnLeafSum
open Go.RowKit
set_option linter.unusedVariables false

theorem inj (s : ByteArray) (a b : Int) : ∀ k, k ≤ s.size → leafTo a s k % 9973 = leafTo b s k % 9973 → a % 9973 = b % 9973
  | 0, _, h => by simpa [leafTo] using h
  | k + 1, hk, h => by
    rw [leafTo_succ a s k (by omega), leafTo_succ b s k (by omega)] at h
    exact inj s a b k (by omega) (by omega)
theorem leaf_bd {number : Int} {s : ByteArray} (h : leafOK number s = true) : 0 ≤ leafSum number s ∧ leafSum number s ≤ 9973 := by
  have hn : 0 ≤ number ∧ number ≤ 7 := by simp [leafOK, inB] at h; exact h.2
  unfold leafSum
  rw [if_pos h]
  have := leafTo_bd (7 + number) s (by omega) (by omega) s.size (Nat.le_refl _)
  omega
theorem leaf_lt {number : Int} {s : ByteArray} (h : leafOK number s = true) : leafSum number s < 9973 := by
  have hn : 0 ≤ number ∧ number ≤ 7 := by simp [leafOK, inB] at h; exact h.2
  unfold leafSum
  rw [if_pos h]
  cases hs : s.size with
  | zero => simp [leafTo]; omega
  | succ k =>
    rw [leafTo_succ _ s k (by omega)]
    omega
theorem other {number k : Int} {s : ByteArray} (h : leafOK number s = true) (hk : 0 ≤ k ∧ k ≤ 7) (hne : k ≠ number) : leafSum k s ≠ leafSum number s := by
  have hn : 0 ≤ number ∧ number ≤ 7 := by simp [leafOK, inB] at h; exact h.2
  have hk' : leafOK k s = true := by
    simp [leafOK, inB] at h ⊢
    exact ⟨h.1, hk⟩
  intro e
  unfold leafSum at e
  rw [if_pos h, if_pos hk'] at e
  have := inj s (7 + k) (7 + number) s.size (Nat.le_refl _) (by rw [e])
  omega

theorem walk (a0 : Option Addr) (len0 cap0 : Nat) (a1 : Option Addr) (len1 cap1 : Nat) (w : World) (c0 : CodeArg w a0 len0 cap0) (c1 : CodeArg w a1 len1 cap1) :
    Calls Try.prog 6 #[.slice a0 len0 cap0, .slice a1 len1 cap1] w fun e w' => e = .returned (.bool true) ∧ Below w.heap.size w w' := by
  by_cases h0 : 1048576 < len0
  · go_enter Try.func6, Try.ntmps6
    go_wp2
    go_ret
    exact ⟨rfl, Below.refl _ _⟩
  by_cases h1 : 1048576 < len1
  · go_enter Try.func6, Try.ntmps6
    go_wp2
    go_ret
    exact ⟨rfl, Below.refl _ _⟩
  go_enter Try.func6, Try.ntmps6
  go_wp2_with fail
  refine (c_DrawLeafSum _ _ _ _ c0).mono ?_
  rintro e w1 ⟨number, s, hs, rfl, hg⟩
  go_wp2_with fail
  refine (c_impl_LeafSum _ _ _ (by omega)).mono ?_
  rintro e w2 ⟨rfl, hg2⟩
  go_wp2_with fail
  refine (c_spec_LeafSum _ _ _ (by omega)).mono ?_
  rintro e w3 ⟨rfl, hg3⟩
  have hG3 := gb_trans (gb_trans hg hg2) hg3
  by_cases hok : leafOK number s = true
  · have hn : 0 ≤ number ∧ number ≤ 7 := by simp [leafOK, inB] at hok; exact hok.2
    obtain ⟨hn0, hn7⟩ := hn
    have hb0 := (leaf_bd hok).1
    have hb1 := leaf_lt hok
    have hm0 : 0 ≤ (len1 : Int) % 7 := by omega
    have hm1 : (len1 : Int) % 7 ≤ 6 := by omega
    have ho := bne_iff_ne.2 (other (k := (number + 1 + (len1 : Int) % 7) % 8) hok (by omega) (by omega))
    clear hok
    go_wp2_with fail
    refine (c_impl_LeafSum _ _ _ (by omega)).mono ?_
    rintro e w4 ⟨rfl, hg4⟩
    go_wp2
    go_ret
    exact ⟨rfl, gb_below (gb_trans hG3 hg4)⟩
  · have hneg : leafSum number s < 0 := by unfold leafSum; rw [if_neg hok]; omega
    clear hok
    go_wp2
    go_ret
    exact ⟨rfl, gb_below hG3⟩
end Go.Proofs.Ytocdgmmmegcnoaa.lawFnLeafSum
