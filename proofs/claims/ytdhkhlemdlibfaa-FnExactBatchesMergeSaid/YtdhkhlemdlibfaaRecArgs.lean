/-
  How the arguments of the laws that are slices of piles, of batches or of precincts are opened.
-/
import Derived.Test.YtdhkhlemdlibfaaPilesArgs
import Derived.Test.YtdhkhlemdlibfaaRows
namespace Go.Proofs.Ytdhkhlemdlibfaa
open Go.RowKit Go.ChangeShapes Go.WideShapes Go.ChangeAt Go.Deep
set_option linter.unusedVariables false

section
variable {H : Type} {enc : TypeId × Value → H} {w : World} {base : Nat} {spare : Nat → Bool} {held : Bool}
theorem trod_piles {fuel : Nat} {v : Value} {y : DataW H × List MemPlace} (h : DataW.trod enc Try.prog w base spare held fuel 60 [v] = some y) : ∃ (A : Option Addr) (c : Nat) (ps : List Pl), v = .slice A ps.length c ∧ PlsWf ps ∧ Piles w 0 A ps.length c ps := by
  have hv : ∃ A n c, v = .slice A n c := by
    rcases DataW.trod_slice Try.underlying60 h with ⟨hcs, _⟩ | ⟨a, len, cap, _, _, _, _, hcs, _⟩
    · simp at hcs; exact ⟨_, _, _, hcs⟩
    · simp at hcs; exact ⟨_, _, _, hcs⟩
  obtain ⟨A, n, c, rfl⟩ := hv
  obtain ⟨ps, hw, hp⟩ := arg_piles Try.underlying60 Try.underlying87 rfl rfl Try.underlying3 Try.underlying9 (by kernel_rfl) (by kernel_rfl) h
  obtain rfl := hp.len
  exact ⟨A, c, ps, rfl, hw, hp⟩
theorem arg_pls {a : Option Addr} {len cap : Nat} {d : DataW H} {p : List MemPlace} (h : DataW.Trod enc Try.prog w base spare held 60 (.slice a len cap) d p) : ∃ ps : List Pl, PlsWf ps ∧ Piles w 0 a len cap ps := by
  obtain ⟨fuel, hf⟩ := h
  exact arg_piles Try.underlying60 Try.underlying87 rfl rfl Try.underlying3 Try.underlying9 (by kernel_rfl) (by kernel_rfl) hf
theorem arg_bats {a : Option Addr} {len cap : Nat} {d : DataW H} {p : List MemPlace} (h : DataW.Trod enc Try.prog w base spare held 36 (.slice a len cap) d p) : ∃ bs : List Bt, RecsWf btRec bs ∧ Bats w 0 a len cap bs := by
  obtain ⟨fuel, hf⟩ := h
  rcases open_fields Try.underlying36 Try.underlying62 (by kernel_rfl) (by kernel_rfl) hf with hcs | ⟨x, l, c, hcs, hl, hm, hi⟩
  · simp [Value.cells] at hcs
    obtain ⟨rfl, rfl, rfl⟩ := hcs
    exact ⟨[], (by intro x hx; cases hx), Recs.nil _ _ _ _ _ (Nat.zero_le _)⟩
  · simp [Value.cells] at hcs
    obtain ⟨rfl, rfl, rfl⟩ := hcs
    refine recs_of hl hm (fun i hil => ?_)
    obtain ⟨n, hf⟩ := hi i hil
    obtain ⟨v0, y0, hc0, ht0⟩ := hf 0 _ rfl
    obtain ⟨v1, y1, hc1, ht1⟩ := hf 1 _ rfl
    obtain ⟨v2, y2, hc2, ht2⟩ := hf 2 _ rfl
    obtain ⟨z0, hz0, _⟩ := DataW.trod_int Try.underlying3 ht0
    obtain ⟨z1, hz1, _⟩ := DataW.trod_int Try.underlying3 ht1
    obtain ⟨A', c', ps, hz2, hw, hps⟩ := trod_piles ht2
    simp at hz0 hz1
    subst hz0 hz1 hz2
    refine ⟨((z0, z1, ps), (A', c')), hw, hps, fun j u hu => ?_⟩
    match j, hu with
    | 0, hu => simp [btRec, Rec.cells] at hu; subst hu; exact hc0
    | 1, hu => simp [btRec, Rec.cells] at hu; subst hu; exact hc1
    | 2, hu => simp [btRec, Rec.cells] at hu; subst hu; exact hc2
    | j + 3, hu => simp [btRec, Rec.cells] at hu
end
end Go.Proofs.Ytdhkhlemdlibfaa
