/-
  Contracts of the small functions of numbers: l6In, NodeSum.
-/
import Derived.Test.YtipnalfkpalieaaDoorRows
import Derived.Test.YtipnalfkpalieaaDoorMem
import Derived.WalkKit
import Derived.WalkLawsBesides
import Derived.WalkSpells
import Derived.Lib.Hide
namespace Go.Proofs.YtipnalfkpalieaaDoor
open Go.RowKit
set_option linter.unusedVariables false

def inB (n lo hi : Int) : Bool := decide (lo ≤ n ∧ n ≤ hi)

theorem c_l6In (n lo hi : Int) (w : World) :
    Calls Tryd.prog 44 #[.int .i64 n, .int .i64 lo, .int .i64 hi] w fun e w' => e = .returned (.bool (inB n lo hi)) ∧ w = w' := by
  by_cases h1 : lo ≤ n <;> by_cases h2 : n ≤ hi
  all_goals
    go_enter Tryd.func44, Tryd.ntmps44
    go_wp2
    go_ret
    exact ⟨by simp [inB, *], rfl⟩

def nodeSum (a b : Int) : Int := if 0 ≤ a ∧ a ≤ 9972 ∧ 0 ≤ b ∧ b ≤ 9972 then (a * 97 + b * 89 + 13) % 9973 else -1


end Go.Proofs.YtipnalfkpalieaaDoor
