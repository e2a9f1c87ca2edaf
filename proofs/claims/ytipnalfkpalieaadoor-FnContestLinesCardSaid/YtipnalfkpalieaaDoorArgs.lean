/-
  How the arguments of a law are opened: slices of bytes, of integers, of strings.
-/
import Derived.Test.YtipnalfkpalieaaDoorMem
import Derived.ProofKit
import Derived.OpenShut
import Derived.SliceStrings
namespace Go.Proofs.YtipnalfkpalieaaDoor
open Go.RowKit Go.ChangeShapes Go.WideShapes Go.ChangeAt
set_option linter.unusedVariables false

/-- A slice of bytes that came in. -/
def CodeArg (w : World) (A : Option Addr) (len cap : Nat) : Prop :=
  len ≤ cap ∧ cap ≤ maxLen ∧ (0 < len → ∃ b off, A = some ⟨b, off, none⟩ ∧ b < w.heap.size ∧ ∀ j, j < len → ∃ u : Nat, u ≤ 255 ∧ w.cell? ⟨b, off + j, none⟩ = some (.int .u8 (u : Int)))

theorem add_none (b off j : Nat) : (⟨b, off, none⟩ : Addr).add j = ⟨b, off + j, none⟩ := by unfold Addr.add; split <;> simp_all

section
variable {H : Type} {enc : TypeId × Value → H} {P : Program} {w : World} {base : Nat} {spare : Nat → Bool} {held : Bool}

theorem spot_of {a : Addr} {w : World} {v : Value} (h : w.cell? (a.add 0) = some v) : a = ⟨a.block, a.off, none⟩ := by
  have h' : w.cell? a = some v := by simpa [Addr.add] using h
  have hs := World.cell?_spot h'
  cases a
  simp_all

theorem arg_u8 {t e : TypeId} {a : Option Addr} {len cap : Nat} {d : DataW H} {p : List MemPlace} (ht : P.underlying t = some (.slice e)) (he : P.underlying e = some (.int .u8)) (hc : P.cellsOf e = 1)
    (h : DataW.Trod enc P w base spare held t (.slice a len cap) d p) : CodeArg w a len cap := by
  obtain ⟨fuel, hf⟩ := h
  rcases open_ints ht he hc hf with ⟨hcs, _⟩ | ⟨x, l, c, zs, hcs, _, hl, hm, hz, _, hcell, hwz⟩
  · simp [Value.cells] at hcs
    obtain ⟨rfl, rfl, rfl⟩ := hcs
    exact ⟨Nat.le_refl _, Nat.zero_le _, fun h => absurd h (by omega)⟩
  · simp [Value.cells] at hcs
    obtain ⟨rfl, rfl, rfl⟩ := hcs
    have hlz : len ≤ zs.length := by split at hz <;> omega
    refine ⟨hl, hm, fun h0 => ?_⟩
    have hx := spot_of (hcell 0 (by omega))
    refine ⟨x.block, x.off, by rw [← hx], ?_, fun j hj => ?_⟩
    · have := World.block_lt_of_cell? _ _ (hcell 0 (by omega))
      rw [hx] at this
      exact this
    · have hcj := hcell j (by omega)
      rw [hx, add_none] at hcj
      obtain ⟨h1, h2⟩ := bounds_u8 (hwz (zs.getD j 0) (by rw [getD_at _ (by omega)]; exact List.getElem_mem _))
      exact ⟨(zs.getD j 0).toNat, by omega, by rw [hcj, Int.toNat_of_nonneg h1]⟩

theorem arg_ints {t e : TypeId} {a : Option Addr} {len cap : Nat} {d : DataW H} {p : List MemPlace} (ht : P.underlying t = some (.slice e)) (he : P.underlying e = some (.int .i64)) (hc : P.cellsOf e = 1)
    (h : DataW.Trod enc P w base spare held t (.slice a len cap) d p) : ∃ xs : List Int, len ≤ cap ∧ cap ≤ maxLen ∧ (∀ n ∈ xs, (Lit.int .i64 n).wf = true) ∧ Rd w 0 1 a len (xs.map (Value.int .i64)) := by
  obtain ⟨fuel, hf⟩ := h
  rcases open_ints ht he hc hf with ⟨hcs, _⟩ | ⟨x, l, c, zs, hcs, _, hl, hm, hz, _, hcell, hwz⟩
  · simp [Value.cells] at hcs
    obtain ⟨rfl, rfl, rfl⟩ := hcs
    exact ⟨[], Nat.le_refl _, Nat.zero_le _, by simp, Rd.nil _ _ _ _⟩
  · simp [Value.cells] at hcs
    obtain ⟨rfl, rfl, rfl⟩ := hcs
    have hlz : len ≤ zs.length := by split at hz <;> omega
    refine ⟨zs.take len, hl, hm, fun n hn => hwz n (List.mem_of_mem_take hn), by simp; omega, fun h0 => ?_⟩
    have hx := spot_of (hcell 0 (by omega))
    refine ⟨x.block, x.off, by rw [← hx], Nat.zero_le _, ?_, fun j u hu => ?_⟩
    · have := World.block_lt_of_cell? _ _ (hcell 0 (by omega))
      rw [hx] at this
      exact this
    · rw [List.getElem?_map, List.getElem?_take] at hu
      split at hu
      · rename_i hj
        have hcj := hcell j (by omega)
        rw [hx, add_none] at hcj
        rw [hcj, ← hu, List.getElem?_eq_getElem (by omega), getD_at _ (by omega)]
        rfl
      · cases hu

theorem arg_strs {t e : TypeId} {a : Option Addr} {len cap : Nat} {d : DataW H} {p : List MemPlace} (ht : P.underlying t = some (.slice e)) (he : P.underlying e = some .string) (hc : P.cellsOf e = 1)
    (h : DataW.Trod enc P w base spare held t (.slice a len cap) d p) : ∃ xs : List ByteArray, len ≤ cap ∧ cap ≤ maxLen ∧ (∀ s ∈ xs, s.size ≤ maxLen) ∧ Rd w 0 1 a len (xs.map Value.string) := by
  obtain ⟨fuel, hf⟩ := h
  rcases open_strings ht he hc hf with ⟨hcs, _⟩ | ⟨x, l, c, zs, hcs, _, hl, hm, hz, _, hcell, hwz⟩
  · simp [Value.cells] at hcs
    obtain ⟨rfl, rfl, rfl⟩ := hcs
    exact ⟨[], Nat.le_refl _, Nat.zero_le _, by simp, Rd.nil _ _ _ _⟩
  · simp [Value.cells] at hcs
    obtain ⟨rfl, rfl, rfl⟩ := hcs
    have hlz : len ≤ zs.length := by split at hz <;> omega
    refine ⟨zs.take len, hl, hm, fun n hn => hwz n (List.mem_of_mem_take hn), by simp; omega, fun h0 => ?_⟩
    have hx := spot_of (hcell 0 (by omega))
    refine ⟨x.block, x.off, by rw [← hx], Nat.zero_le _, ?_, fun j u hu => ?_⟩
    · have := World.block_lt_of_cell? _ _ (hcell 0 (by omega))
      rw [hx] at this
      exact this
    · rw [List.getElem?_map, List.getElem?_take] at hu
      split at hu
      · rename_i hj
        have hcj := hcell j (by omega)
        rw [hx, add_none] at hcj
        rw [hcj, ← hu, List.getElem?_eq_getElem (by omega), getD_at _ (by omega)]
        rfl
      · cases hu
end
end Go.Proofs.YtipnalfkpalieaaDoor
