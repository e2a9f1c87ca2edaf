/-
  Contracts of the small functions of numbers: l6In, NodeSum.
-/
import Derived.Test.YtocdgmmmegcnoaaRows
import Derived.Test.YtocdgmmmegcnoaaMem
import Derived.WalkKit
import Derived.WalkLawsBesides
import Derived.WalkSpells
import Derived.Lib.Hide
namespace Go.Proofs.Ytocdgmmmegcnoaa
open Go.RowKit
set_option linter.unusedVariables false

def inB (n lo hi : Int) : Bool := decide (lo ≤ n ∧ n ≤ hi)

theorem c_l6In (n lo hi : Int) (w : World) :
    Calls Try.prog 40 #[.int .i64 n, .int .i64 lo, .int .i64 hi] w fun e w' => e = .returned (.bool (inB n lo hi)) ∧ w = w' := by
  by_cases h1 : lo ≤ n <;> by_cases h2 : n ≤ hi
  all_goals
    go_enter Try.func40, Try.ntmps40
    go_wp2
    go_ret
    exact ⟨by simp [inB, *], rfl⟩

def nodeSum (a b : Int) : Int := if 0 ≤ a ∧ a ≤ 9972 ∧ 0 ≤ b ∧ b ≤ 9972 then (a * 97 + b * 89 + 13) % 9973 else -1

theorem c_spec_NodeSum (a b : Int) (w : World) :
    Calls Try.prog 16 #[.int .i64 a, .int .i64 b] w fun e w' => e = .returned (.int .i64 (nodeSum a b)) ∧ w = w' := by
  by_cases h1 : 0 ≤ a ∧ a ≤ 9972
  · have e1 : inB a 0 9972 = true := by simpa [inB] using h1
    obtain ⟨h1a, h1b⟩ := h1
    by_cases h2 : 0 ≤ b ∧ b ≤ 9972
    · have e2 : inB b 0 9972 = true := by simpa [inB] using h2
      obtain ⟨h2a, h2b⟩ := h2
      go_enter Try.func16, Try.ntmps16
      go_wp2_with (go_at_call 40; refine (c_l6In _ _ _ _).mono ?_; rintro e w' ⟨rfl, rfl⟩)
      go_ret
      exact ⟨ret_int (by unfold nodeSum; rw [if_pos (by omega)]), rfl⟩
    · have e2 : inB b 0 9972 = false := by simpa [inB] using h2
      go_enter Try.func16, Try.ntmps16
      go_wp2_with (go_at_call 40; refine (c_l6In _ _ _ _).mono ?_; rintro e w' ⟨rfl, rfl⟩)
      go_ret
      exact ⟨ret_int (by unfold nodeSum; rw [if_neg (by omega)]), rfl⟩
  · have e1 : inB a 0 9972 = false := by simpa [inB] using h1
    go_enter Try.func16, Try.ntmps16
    go_wp2_with (go_at_call 40; refine (c_l6In _ _ _ _).mono ?_; rintro e w' ⟨rfl, rfl⟩)
    go_ret
    exact ⟨ret_int (by unfold nodeSum; rw [if_neg (by omega)]), rfl⟩

theorem c_impl_NodeSum (a b : Int) (w : World) :
    Calls Try.prog 17 #[.int .i64 a, .int .i64 b] w fun e w' => e = .returned (.int .i64 (nodeSum a b)) ∧ w = w' := by
  go_enter Try.func17, Try.ntmps17
  go_wp2
  all_goals (go_ret; exact ⟨ret_int (by unfold nodeSum; split <;> omega), rfl⟩)
end Go.Proofs.Ytocdgmmmegcnoaa
