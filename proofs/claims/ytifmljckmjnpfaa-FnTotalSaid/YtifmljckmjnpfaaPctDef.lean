/-
  Valid precincts: what they are.
-/
import Derived.Test.YtifmljckmjnpfaaPiles
namespace Go.Proofs.Ytifmljckmjnpfaa
open Go.RowKit
set_option linter.unusedVariables false

def pcOK (b : Pc) : Bool := inB b.1 1 99 && pilesOK b.2
def pcStep (bs : List Pc) (k : Nat) (b : Pc) : Bool := decide (k = 0) || (match bs[k - 1]? with | some q => decide (q.1 < b.1) | none => false)
def pcPre (bs : List Pc) : Nat → Bool
  | 0 => true
  | k + 1 => pcPre bs k && (match bs[k]? with | some b => pcOK b && pcStep bs k b | none => false)
def pctsOK (bs : List Pc) : Bool := pcPre bs bs.length && decide (bs.length ≤ 6)
theorem pcPre_step {bs : List Pc} {k : Nat} {b : Pc} (h : bs[k]? = some b) : pcPre bs (k + 1) = (pcPre bs k && (pcOK b && pcStep bs k b)) := by
  simp only [pcPre, h]
theorem pcPre_false {bs : List Pc} {k : Nat} (h : pcPre bs k = false) : ∀ {m : Nat}, k ≤ m → pcPre bs m = false
  | 0, hm => by
    obtain rfl : k = 0 := by omega
    exact h
  | m + 1, hm => by
    rcases Nat.lt_or_ge m k with hlt | hge
    · obtain rfl : k = m + 1 := by omega
      exact h
    · simp only [pcPre, pcPre_false h hge, Bool.false_and]
theorem pcts_bad {bs : List Pc} {k : Nat} {b : Pc} (h : bs[k]? = some b) (hb : (pcOK b && pcStep bs k b) = false) : pctsOK bs = false := by
  have hk : k < bs.length := (List.getElem?_eq_some_iff.1 h).1
  have : pcPre bs (k + 1) = false := by rw [pcPre_step h, hb, Bool.and_false]
  unfold pctsOK
  rw [pcPre_false this (by omega), Bool.false_and]
theorem pcStep_zero {bs : List Pc} (b : Pc) : pcStep bs 0 b = true := rfl
theorem pcStep_at {bs : List Pc} {k : Nat} {b q : Pc} (h : bs[k]? = some q) : pcStep bs (k + 1) b = decide (q.1 < b.1) := by
  simp [pcStep, h]

end Go.Proofs.Ytifmljckmjnpfaa
