/-
  How the arguments of the laws that are slices of piles, of batches or of precincts are opened.
-/
import Derived.Test.YtipnalfkpalieaaDoorPilesArgs
import Derived.Test.YtipnalfkpalieaaDoorRows
namespace Go.Proofs.YtipnalfkpalieaaDoor
open Go.RowKit Go.ChangeShapes Go.WideShapes Go.ChangeAt Go.Deep
set_option linter.unusedVariables false

section
variable {H : Type} {enc : TypeId × Value → H} {w : World} {base : Nat} {spare : Nat → Bool} {held : Bool}
theorem trod_piles {fuel : Nat} {v : Value} {y : DataW H × List MemPlace} (h : DataW.trod enc Tryd.prog w base spare held fuel 22 [v] = some y) : ∃ (A : Option Addr) (c : Nat) (ps : List Pl), v = .slice A ps.length c ∧ PlsWf ps ∧ Piles w 0 A ps.length c ps := by
  have hv : ∃ A n c, v = .slice A n c := by
    rcases DataW.trod_slice Tryd.underlying22 h with ⟨hcs, _⟩ | ⟨a, len, cap, _, _, _, _, hcs, _⟩
    · simp at hcs; exact ⟨_, _, _, hcs⟩
    · simp at hcs; exact ⟨_, _, _, hcs⟩
  obtain ⟨A, n, c, rfl⟩ := hv
  obtain ⟨ps, hw, hp⟩ := arg_piles Tryd.underlying22 Tryd.underlying43 rfl rfl Tryd.underlying3 Tryd.underlying9 (by kernel_rfl) (by kernel_rfl) h
  obtain rfl := hp.len
  exact ⟨A, c, ps, rfl, hw, hp⟩
theorem arg_pls {a : Option Addr} {len cap : Nat} {d : DataW H} {p : List MemPlace} (h : DataW.Trod enc Tryd.prog w base spare held 22 (.slice a len cap) d p) : ∃ ps : List Pl, PlsWf ps ∧ Piles w 0 a len cap ps := by
  obtain ⟨fuel, hf⟩ := h
  exact arg_piles Tryd.underlying22 Tryd.underlying43 rfl rfl Tryd.underlying3 Tryd.underlying9 (by kernel_rfl) (by kernel_rfl) hf
end
end Go.Proofs.YtipnalfkpalieaaDoor
