/-
  Nothing changes just when the piles are the same.
-/
import Derived.Test.YtbhchlnbhimcpaaChangeI
import Derived.Test.YtbhchlnbhimcpaaReturns
import Derived.Test.YtbhchlnbhimcpaaSame
namespace Go.Proofs.Ytbhchlnbhimcpaa
open Go.RowKit
set_option linter.unusedVariables false

theorem sum_zero {ps : List Pl} (h : ∀ p ∈ ps, 0 ≤ p.2) (h0 : sumPl ps = 0) : ∀ p ∈ ps, p.2 = 0 := by
  induction ps with
  | nil => intro p hp; cases hp
  | cons q ps ih =>
    have h1 := h q (by simp)
    have h2 := sumPl_nonneg (fun x hx => h x (List.mem_cons_of_mem _ hx))
    rw [sumPl_cons] at h0
    intro p hp
    rcases List.mem_cons.1 hp with rfl | hp
    · omega
    · exact ih (fun x hx => h x (List.mem_cons_of_mem _ hx)) (by omega) p hp
theorem sum_all_zero {ps : List Pl} (h : ∀ p ∈ ps, p.2 = 0) : sumPl ps = 0 := by
  induction ps with
  | nil => rfl
  | cons q ps ih => rw [sumPl_cons, h q (by simp), ih (fun x hx => h x (List.mem_cons_of_mem _ hx))]; rfl
theorem chg_zero {xs ys : List Pl} (hx : Vld xs) (hy : Vld ys) : sumPl (chgL xs ys) = 0 ↔ xs = ys := by
  constructor
  · intro h0
    have hz := sum_zero (fun p hp => (chgL_val hx hy p hp).1) h0
    have hl : ∀ t, look xs t = look ys t := by
      intro t
      by_cases ht : t ∈ xs.map (·.1) ∨ t ∈ ys.map (·.1)
      · have := hz _ (chgL_mem hx hy ht)
        simp only [mx] at this
        split at this <;> omega
      · rw [look_none (fun h => ht (.inl h)), look_none (fun h => ht (.inr h))]
    have hm : ∀ {zs : List Pl}, Vld zs → ∀ t, t ∈ zs.map (·.1) ↔ look zs t ≠ 0 := by
      intro zs hv t
      constructor
      · intro h e; exact hv.zero e h
      · intro h
        by_cases h1 : t ∈ zs.map (·.1)
        · exact h1
        · exact absurd (look_none h1) h
    exact asc_ext hx.asc hy.asc (fun t => by rw [hm hx, hm hy, hl]) hl
  · rintro rfl
    refine sum_all_zero (fun p hp => ?_)
    rcases List.mem_append.1 hp with hp | hp
    · obtain ⟨q, hq, rfl⟩ := List.mem_map.1 hp
      rw [look_mem hx.asc hq]
      show mx (q.2 - q.2) = 0
      rw [Int.sub_self]
      rfl
    · obtain ⟨hq, h0⟩ := List.mem_filter.1 hp
      have h1 := hx.val p hq
      rw [look_mem hx.asc hq] at h0
      have : p.2 = 0 := by simpa using h0
      omega
def DrawRes (w : World) (e : Ending) (w' : World) : Prop :=
  ∃ A1 c1 b1 A2 c2 b2, e = .returned (.tuple #[.slice A1 b1.length c1, .slice A2 b2.length c2]) ∧ Bats w' w.heap.size A1 b1.length c1 b1 ∧ Bats w' w.heap.size A2 b2.length c2 b2 ∧ b1.length ≤ 9 ∧ b2.length ≤ 9 ∧ (∀ b ∈ b1, SmallPls b.2.2) ∧ (∀ b ∈ b2, SmallPls b.2.2) ∧ w.grownBy w' none
theorem c_DrawBatchesChange (A : Option Addr) (len cap : Nat) (w : World) (h : CodeArg w A len cap) :
    Calls Try.prog 46 #[.slice A len cap] w (DrawRes w) := by
  go_enter Try.func46, Try.ntmps46
  go_wp2_with fail
  refine (c_l6Open A len cap w h).mono ?_
  rintro e w1 ⟨rfl, hR1, hg1, hz1⟩
  go_wp2_with fail
  refine (c_l93Returns _ _ _ hR1 (by omega)).mono ?_
  rintro e w2 ⟨A1, c1, b1, A2, c2, b2, rfl, hb1, hb2, hl1, hl2, hs1, hs2, hg2⟩
  have hG2 : w.grownBy w2 none := gb_step hg1 hg2 (fun g e => by injection e with e; right; omega)
  have hb1' := hb1.mono hg1.size
  have hb2' := hb2.mono hg1.size
  have Hs1 := Lib.hid hs1
  have Hs2 := Lib.hid hs2
  obtain ⟨N, hN⟩ : ∃ N, b1.length = N := ⟨_, rfl⟩
  have HN := Lib.hid hN
  obtain ⟨M, hM⟩ : ∃ M, b2.length = M := ⟨_, rfl⟩
  have HM := Lib.hid hM
  rw [hN] at hl1 hb1'
  rw [hM] at hl2 hb2'
  rw [hN, hM]
  clear hN hM hs1 hs2 hb1 hb2
  go_wp2
  go_ret2
  exact ⟨A1, c1, b1, A2, c2, b2, by rw [HN.out, HM.out]; rfl, by rw [HN.out]; exact hb1', by rw [HM.out]; exact hb2', by rw [HN.out]; exact hl1, by rw [HM.out]; exact hl2, Hs1.out, Hs2.out, hG2⟩
end Go.Proofs.Ytbhchlnbhimcpaa
