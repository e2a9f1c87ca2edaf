/-
  append(append([]T, a..), b..) in a region that draws its order, over any program: how the slices read.
-/
import Derived.Test.YtipnalfkpalieaaDoorChain
import Derived.Test.YtipnalfkpalieaaDoorOwn
namespace Go.Proofs.YtipnalfkpalieaaDoor
open Go.RowKit
set_option linter.unusedVariables false

theorem Sl.none_zero {w : World} {lo size n cap : Nat} {A : Option Addr} {cs : List Value} (h : Sl w lo size A n cap cs) (e : A = none) : n = 0 := by
  rcases Nat.eq_zero_or_pos n with h0 | h0
  · exact h0
  · obtain ⟨b, off, h1, _⟩ := h.2.2.2 h0
    rw [e] at h1
    cases h1
theorem Sl.addr {w : World} {lo size n cap : Nat} {A : Option Addr} {cs : List Value} {a : Addr} (h : Sl w lo size A n cap cs) (e : A = some a) : ∀ j u, cs[j]? = some u → w.cell? (a.add j) = some u := by
  intro j u hu
  have hjl := (List.getElem?_eq_some_iff.1 hu).1
  have hl := h.2.2.1
  have h0 : 0 < n := by
    rcases Nat.eq_zero_or_pos n with h0 | h0
    · subst h0; omega
    · exact h0
  obtain ⟨b, off, h1, _, _, hc⟩ := h.2.2.2 h0
  rw [e] at h1
  injection h1 with h1
  subst h1
  rw [add_off]
  exact hc j u hu
theorem Sl.take {w : World} {lo size n cap k : Nat} {A : Option Addr} {cs : List Value} (h : Sl w lo size A n cap cs) (hk : k ≤ n) : Sl w lo size A k cap (cs.take (k * size)) := ⟨Nat.le_trans hk h.1, h.2.1, h.2.2.take hk⟩
theorem Sl.drop {w : World} {lo size n cap k : Nat} {A : Option Addr} {cs : List Value} (h : Sl w lo size A n cap cs) (hk : k ≤ n) : Sl w lo size (if cap = k then A else A.map (·.add (k * size))) (n - k) (cap - k) (cs.drop (k * size)) := by
  have := h.1
  have := h.2.1
  exact ⟨by omega, by omega, h.2.2.cut hk h.1⟩
/-- All cells of records are of one cell. -/
theorem recs_one {α : Type} {R : Rec α} (hR : ∀ x, ∀ u ∈ R.fields x, u.oneCell' = true) {zs : List (α × Hd)} : ∀ u ∈ cellsOf R.cells zs, u.oneCell' = true := by
  induction zs with
  | nil => intro u hu; cases hu
  | cons z zs ih =>
    intro u hu
    rw [cellsOf_cons] at hu
    rcases List.mem_append.1 hu with hu | hu
    · unfold Rec.cells at hu
      rcases List.mem_append.1 hu with hu | hu
      · exact hR _ u hu
      · rw [List.mem_singleton.1 hu]; rfl
    · exact ih u hu
end Go.Proofs.YtipnalfkpalieaaDoor
