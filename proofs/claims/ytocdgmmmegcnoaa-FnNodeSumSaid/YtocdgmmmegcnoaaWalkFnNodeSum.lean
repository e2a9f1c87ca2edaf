/-
  The walk of the law FnNodeSum: a node knows both of its parts.
-/
import Derived.Test.YtocdgmmmegcnoaaDrawNode
namespace Go.Proofs.Ytocdgmmmegcnoaa.lawFnNodeSum
open Go.RowKit
set_option linter.unusedVariables false

theorem other (a b m : Int) (ha : 0 ≤ a) (ha' : a ≤ 9972) (hb : 0 ≤ b) (hb' : b ≤ 9972) (hm : 0 ≤ m) (hm' : m ≤ 9971) :
    nodeSum ((a + 1 + m) % 9973) b ≠ nodeSum a b ∧ nodeSum a ((b + 1 + m) % 9973) ≠ nodeSum a b := by
  have h1 : 0 ≤ (a + 1 + m) % 9973 ∧ (a + 1 + m) % 9973 ≤ 9972 := by omega
  have h2 : 0 ≤ (b + 1 + m) % 9973 ∧ (b + 1 + m) % 9973 ≤ 9972 := by omega
  unfold nodeSum
  rw [if_pos (by omega), if_pos (by omega), if_pos (by omega)]
  omega


theorem walk (a0 : Option Addr) (len0 cap0 : Nat) (a1 : Option Addr) (len1 cap1 : Nat) (w : World) (c0 : CodeArg w a0 len0 cap0) (c1 : CodeArg w a1 len1 cap1) :
    Calls Try.prog 4 #[.slice a0 len0 cap0, .slice a1 len1 cap1] w fun e w' => e = .returned (.bool true) ∧ Below w.heap.size w w' := by
  by_cases h0 : 1048576 < len0
  · go_enter Try.func4, Try.ntmps4
    go_wp2
    go_ret
    exact ⟨rfl, Below.refl _ _⟩
  by_cases h1 : 1048576 < len1
  · go_enter Try.func4, Try.ntmps4
    go_wp2
    go_ret
    exact ⟨rfl, Below.refl _ _⟩
  go_enter Try.func4, Try.ntmps4
  go_wp2_with fail
  refine (c_DrawNodeSum _ _ _ _ c0).mono ?_
  rintro e w1 ⟨a, b, rfl, hg⟩
  go_wp2_with fail
  refine (c_impl_NodeSum _ _ _).mono ?_
  rintro e w2 ⟨rfl, rfl⟩
  go_wp2_with fail
  refine (c_spec_NodeSum _ _ _).mono ?_
  rintro e w2 ⟨rfl, rfl⟩
  by_cases hn : nodeSum a b < 0
  · go_wp2
    go_ret
    exact ⟨rfl, gb_below hg⟩
  · have hab : 0 ≤ a ∧ a ≤ 9972 ∧ 0 ≤ b ∧ b ≤ 9972 := by
      unfold nodeSum at hn
      split at hn
      · assumption
      · omega
    obtain ⟨ha, ha', hb, hb'⟩ := hab
    have hs : 0 ≤ nodeSum a b ∧ nodeSum a b < 9973 := by
      unfold nodeSum
      rw [if_pos (by omega)]
      omega
    obtain ⟨hs0, hs1⟩ := hs
    have ho := other a b ((len1 : Int) % 9972) ha ha' hb hb' (by omega) (by omega)
    have b1 := bne_iff_ne.2 ho.1
    have b2 := bne_iff_ne.2 ho.2
    clear ho
    have hm0 : 0 ≤ (len1 : Int) % 9972 := by omega
    have hm1 : (len1 : Int) % 9972 ≤ 9971 := by omega
    go_wp2_with fail
    refine (c_impl_NodeSum _ _ _).mono ?_
    rintro e w2 ⟨rfl, rfl⟩
    go_wp2_with fail
    refine (c_impl_NodeSum _ _ _).mono ?_
    rintro e w2 ⟨rfl, rfl⟩
    go_wp2
    go_ret
    exact ⟨rfl, gb_below hg⟩
end Go.Proofs.Ytocdgmmmegcnoaa.lawFnNodeSum
