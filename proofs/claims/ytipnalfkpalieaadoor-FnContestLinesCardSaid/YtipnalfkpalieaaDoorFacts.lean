/-
  What an operation of a drawn region may leave, beside a reader: kept by every later step.
-/
import Derived.Test.YtipnalfkpalieaaDoorRdr
import Derived.Test.YtipnalfkpalieaaDoorFlowTail
namespace Go.Proofs.YtipnalfkpalieaaDoor
open Go.RowKit
set_option linter.unusedVariables false

/-- A new row of cells, not the reader's. -/
def fRow (R t n : Nat) (cs : Array Value) (v : Value) (x : World) : Prop := ∃ g, v = .slice (some ⟨g, 0, none⟩) n n ∧ R < g ∧ Blk x g t cs
/-- A new row of one cell of a kind. -/
def fOne (R t : Nat) (p : Value → Prop) (v : Value) (x : World) : Prop := ∃ g u, v = .slice (some ⟨g, 0, none⟩) 1 1 ∧ R < g ∧ Blk x g t #[u] ∧ p u
def fIs (u v : Value) (_ : World) : Prop := v = u
def fPick (n : Nat) (v : Value) (_ : World) : Prop := ∃ k : Nat, k < n ∧ v = .int .i64 (k : Int)
/-- A place that holds a value of a kind. -/
def fPlace (R : Nat) (p : Value → Prop) (v : Value) (x : World) : Prop := ∃ g k, v = .pointer (some ⟨g, k, none⟩) ∧ R < g ∧ ∃ u, x.cell? ⟨g, k, none⟩ = some u ∧ p u
def fInt (v : Value) (_ : World) : Prop := ∃ n : Int, v = .int .i64 n
def fVal (p : Value → Prop) (v : Value) (_ : World) : Prop := p v

theorem fRow_kept {R t n : Nat} {cs : Array Value} {v : Value} {x y : World} (h : x.grownBy y (some R)) (hv : fRow R t n cs v x) : fRow R t n cs v y := by
  obtain ⟨g, e, hg, hb⟩ := hv
  exact ⟨g, e, hg, hb.grown h (by simp; omega)⟩
theorem fOne_kept {R t : Nat} {p : Value → Prop} {v : Value} {x y : World} (h : x.grownBy y (some R)) (hv : fOne R t p v x) : fOne R t p v y := by
  obtain ⟨g, u, e, hg, hb, hu⟩ := hv
  exact ⟨g, u, e, hg, hb.grown h (by simp; omega), hu⟩
theorem fPlace_kept {R : Nat} {p : Value → Prop} {v : Value} {x y : World} (h : x.grownBy y (some R)) (hv : fPlace R p v x) : fPlace R p v y := by
  obtain ⟨g, k, e, hg, u, hc, hu⟩ := hv
  exact ⟨g, k, e, hg, u, gb_cell h hc (by simp; omega), hu⟩
/-- A cell of a row of cells of a kind. -/
theorem rowCell {x : World} {g t k : Nat} {cs : Array Value} {p : Value → Prop} (hb : Blk x g t cs) (hp : ∀ u ∈ cs.toList, p u) (hk : k < cs.size) : ∃ u, x.cell? ⟨g, k, none⟩ = some u ∧ p u := by
  refine ⟨cs[k], by rw [hb.cell k, Array.getElem?_eq_getElem hk], hp _ (by simp)⟩
end Go.Proofs.YtipnalfkpalieaaDoor
