/-
  Valid returns: BatchesValid of the reference and of the program.
-/
import Derived.Test.YtdhkhlemdlibfaaPiles
namespace Go.Proofs.Ytdhkhlemdlibfaa
open Go.RowKit
set_option linter.unusedVariables false

def btOK (b : Bt) : Bool := inB b.1 1 99 && inB b.2.1 0 99 && !(b.2.1 == b.1) && pilesOK b.2.2
def bStep (bs : List Bt) (k : Nat) (b : Bt) : Bool := decide (k = 0) || (match bs[k - 1]? with | some q => decide (q.1 < b.1) | none => false)
def bPre (bs : List Bt) : Nat → Bool
  | 0 => true
  | k + 1 => bPre bs k && (match bs[k]? with | some b => btOK b && bStep bs k b | none => false)
def batchesOK (bs : List Bt) : Bool := bPre bs bs.length && decide (bs.length ≤ 8)
theorem bPre_step {bs : List Bt} {k : Nat} {b : Bt} (h : bs[k]? = some b) : bPre bs (k + 1) = (bPre bs k && (btOK b && bStep bs k b)) := by
  simp only [bPre, h]
theorem bPre_false {bs : List Bt} {k : Nat} (h : bPre bs k = false) : ∀ {m : Nat}, k ≤ m → bPre bs m = false
  | 0, hm => by
    obtain rfl : k = 0 := by omega
    exact h
  | m + 1, hm => by
    rcases Nat.lt_or_ge m k with hlt | hge
    · obtain rfl : k = m + 1 := by omega
      exact h
    · simp only [bPre, bPre_false h hge, Bool.false_and]
theorem batches_bad {bs : List Bt} {k : Nat} {b : Bt} (h : bs[k]? = some b) (hb : (btOK b && bStep bs k b) = false) : batchesOK bs = false := by
  have hk : k < bs.length := (List.getElem?_eq_some_iff.1 h).1
  have : bPre bs (k + 1) = false := by rw [bPre_step h, hb, Bool.and_false]
  unfold batchesOK
  rw [bPre_false this (by omega), Bool.false_and]
theorem bStep_zero {bs : List Bt} (b : Bt) : bStep bs 0 b = true := rfl
theorem bStep_at {bs : List Bt} {k : Nat} {b q : Bt} (h : bs[k]? = some q) : bStep bs (k + 1) b = decide (q.1 < b.1) := by
  simp [bStep, h]

end Go.Proofs.Ytdhkhlemdlibfaa
