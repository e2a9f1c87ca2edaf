/-
  How groups lie in their list: plain Lean.
-/
import Derived.Test.YtifmljckmjnpfaaPubLaw
namespace Go.Proofs.Ytifmljckmjnpfaa
open Go.RowKit
set_option linter.unusedVariables false

theorem pg_ok {bs : List Pc} {least : Int} (h : (pgRes bs least).length ≠ 0) : groupOK bs least = true := by
  rcases hg : groupOK bs least with _ | _
  · exfalso
    apply h
    rw [pgRes, pGroups, if_neg (by rw [hg]; simp)]
    rfl
  · rfl
theorem run_at2 {α : Type} {L : List (List α)} {xs : List α} {k : Nat} {g : List α} (hf : L.flatten = xs) (h : L[k]? = some g) :
    (L.take k).flatten.length + g.length ≤ xs.length ∧ (∀ j, j < g.length → xs[(L.take k).flatten.length + j]? = g[j]?) ∧ (L.take (k + 1)).flatten.length = (L.take k).flatten.length + g.length := by
  have h1 : L = L.take k ++ g :: L.drop (k + 1) := by rw [← drop_cons' h, List.take_append_drop]
  have h2 : xs = (L.take k).flatten ++ (g ++ (L.drop (k + 1)).flatten) := by rw [← hf]; conv => lhs; rw [h1]; simp
  refine ⟨?_, fun j hj => ?_, ?_⟩
  · rw [h2]; simp
  · conv => lhs; rw [h2]
    rw [List.getElem?_append_right (by omega), Nat.add_sub_cancel_left, List.getElem?_append_left hj]
  · rw [take_succ_of h]; simp
theorem pg_at {bs : List Pc} {least : Int} {k : Nat} {r : Row} (h : (pgRes bs least)[k]? = some r) : ∃ g, (pGroups bs least)[k]? = some g ∧ r = g.map (·.1) := by
  rw [pgRes, List.getElem?_map] at h
  cases hg : (pGroups bs least)[k]? with
  | none => rw [hg] at h; cases h
  | some g => rw [hg] at h; injection h with h; exact ⟨g, rfl, h.symm⟩
theorem pg_flat {bs : List Pc} {least : Int} (h : groupOK bs least = true) : (pgRes bs least).flatten = bs.map (·.1) := by
  rw [pgRes, ← List.map_flatten, (pGroups_flat h).1]
theorem wsum_take_step {g : List Pc} {j : Nat} {b : Pc} (h : g[j]? = some b) : wsum pcWt (g.take (j + 1)) = wsum pcWt (g.take j) + pcWt b := by rw [take_succ_of h, wsum_snoc]
end Go.Proofs.Ytifmljckmjnpfaa
