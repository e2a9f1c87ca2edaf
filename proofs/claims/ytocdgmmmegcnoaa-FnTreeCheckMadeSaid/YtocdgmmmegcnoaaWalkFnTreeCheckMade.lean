/-
  The walk of the law FnTreeCheckMade: what is accepted has the proof of a tree.
-/
import Derived.Test.YtocdgmmmegcnoaaDrawCheck
namespace Go.Proofs.Ytocdgmmmegcnoaa.lawFnTreeCheckMade
open Go.RowKit
set_option linter.unusedVariables false

theorem nodeSum_lt (a b : Int) : nodeSum a b < 9973 := by unfold nodeSum; split <;> omega
/-- What a check that comes to its end used, and where it came from. -/
theorem check_used (k : Nat) : ∀ (m p : Nat) (s : Int) (xs : List Int) (r : Int) (rest : List Int), m ≤ 2 ^ k → checkGo m p s xs = some (r, rest) →
    xs.length ≤ rest.length + k ∧ (s < 9973 → r < 9973) ∧ (s = -1 → r = -1) := by
  induction k with
  | zero =>
    intro m p s xs r rest hm h
    rw [checkGo_end (by simpa using hm)] at h
    injection h with h
    injection h with h1 h2
    subst h1 h2
    exact ⟨by omega, id, id⟩
  | succ k ih =>
    intro m p s xs r rest hm h
    by_cases h1 : m ≤ 1
    · rw [checkGo_end h1] at h
      injection h with h
      injection h with h2 h3
      subst h2 h3
      exact ⟨by omega, id, id⟩
    · have hp : (m + 1) / 2 ≤ 2 ^ k := by
        have : 2 ^ (k + 1) = 2 * 2 ^ k := by rw [Nat.pow_succ, Nat.mul_comm]
        omega
      by_cases ho : otherOf p < m
      · cases xs with
        | nil => rw [checkGo_none h1 ho] at h; cases h
        | cons x xs =>
          rw [checkGo_cons h1 ho] at h
          obtain ⟨h2, h3, h4⟩ := ih _ _ _ _ _ _ hp h
          refine ⟨by rw [List.length_cons]; omega, fun _ => h3 ?_, fun e => h4 ?_⟩
          · split <;> exact nodeSum_lt _ _
          · subst e
            split
            · exact nodeSum_bad_l
            · exact nodeSum_bad_r
      · rw [checkGo_skip h1 ho] at h
        obtain ⟨h2, h3, h4⟩ := ih _ _ _ _ _ _ hp h
        exact ⟨by omega, h3, h4⟩
theorem made {root many place : Int} {t : ByteArray} {xs : List Int} (h : treeCheck root many place t xs = true) :
    0 ≤ place ∧ place < many ∧ many ≤ 8 ∧ 0 ≤ root ∧ root < 9973 ∧ 0 ≤ leafSum place t ∧ xs.length ≤ 3 := by
  unfold treeCheck at h
  split at h
  case isFalse => cases h
  case isTrue hr =>
    obtain ⟨h1, h2, h3, h4⟩ := hr
    cases hc : checkGo many.toNat place.toNat (leafSum place t) xs with
    | none => rw [hc] at h; cases h
    | some x =>
      obtain ⟨r, rest⟩ := x
      rw [hc, checkEnd] at h
      simp at h
      obtain ⟨⟨h5, h6⟩, h7⟩ := h
      subst h6 h7
      obtain ⟨h8, h9, h10⟩ := check_used 3 _ _ _ _ _ _ (by omega) hc
      rcases leafSum_or place t with e | ⟨e1, e2⟩
      · have := h10 e; omega
      · have := h9 (by omega)
        refine ⟨h3, h4, h2, h5, this, e1, by simpa using h8⟩

set_option maxHeartbeats 1000000 in
theorem walk (a0 : Option Addr) (len0 cap0 : Nat) (w : World) (c0 : CodeArg w a0 len0 cap0) :
    Calls Try.prog 12 #[.slice a0 len0 cap0] w fun e w' => e = .returned (.bool true) ∧ Below w.heap.size w w' := by
  by_cases h0 : 1048576 < len0
  · go_enter Try.func12, Try.ntmps12
    go_wp2
    go_ret
    exact ⟨rfl, Below.refl _ _⟩
  go_enter Try.func12, Try.ntmps12
  go_wp2_with fail
  refine (c_DrawTreeCheck _ _ _ _ c0).mono ?_
  rintro e w1 ⟨root, many, place, t, A, m, c, xs, rfl, hg1, ho1, hm, ht⟩
  have hxl := own_len ho1
  clear c0
  go_wp2_with fail
  refine (c_impl_TreeCheck _ _ _ _ _ _ _ _ xs _ ht (by omega) (Sl.own ho1)).mono ?_
  rintro e w2 ⟨rfl, hg2⟩
  go_wp2_with fail
  refine (c_spec_TreeCheck _ _ _ _ _ _ _ _ xs _ ht (by omega) (Sl.keep0 (Sl.own ho1) hg2)).mono ?_
  rintro e w3 ⟨rfl, hg3⟩
  have hG3 := gb_trans (gb_trans hg1 hg2) hg3
  obtain ⟨V, hV⟩ : ∃ V, treeCheck root many place t xs = V := ⟨_, rfl⟩
  rw [hV]
  have hVV : (V != V) = false := by simp
  cases V with
  | false =>
    clear hV
    go_wp2
    go_ret
    exact ⟨rfl, gb_below hG3⟩
  | true =>
    obtain ⟨m1, m2, m3, m4, m5, m6, m7⟩ := made hV
    clear hV
    have m7' : (m : Int) ≤ 3 := by omega
    go_wp2_with fail
    refine (c_impl_LeafSum _ _ _ ht).mono ?_
    rintro e w4 ⟨rfl, hg4⟩
    go_wp2
    go_ret
    exact ⟨rfl, gb_below (gb_trans hG3 hg4)⟩
end Go.Proofs.Ytocdgmmmegcnoaa.lawFnTreeCheckMade
