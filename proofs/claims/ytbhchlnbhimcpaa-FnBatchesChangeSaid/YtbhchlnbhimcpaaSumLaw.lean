/-
  Sums of piles: of put, of canon; and which numbers are live.
-/
import Derived.Test.YtbhchlnbhimcpaaTotalI
namespace Go.Proofs.Ytbhchlnbhimcpaa
open Go.RowKit
set_option linter.unusedVariables false

theorem sumPl_cons (p : Pl) (ps : List Pl) : sumPl (p :: ps) = p.2 + sumPl ps := by simp [sumPl]
theorem sumPl_app (a b : List Pl) : sumPl (a ++ b) = sumPl a + sumPl b := by simp [sumPl]
theorem sumPl_nonneg {ps : List Pl} (h : ∀ p ∈ ps, 0 ≤ p.2) : 0 ≤ sumPl ps := by
  induction ps with
  | nil => simp [sumPl]
  | cons p ps ih =>
    have h1 := ih (fun x hx => h x (List.mem_cons_of_mem _ hx))
    have h2 := h p (by simp)
    rw [sumPl_cons]
    omega
theorem sum_put {ps : List Pl} {t : ByteArray} {m : Int} (h : ∀ p ∈ ps, 0 ≤ p.2) (hm : 0 ≤ m) (hb : sumPl ps + m ≤ 1000000000000) : sumPl (put ps t m) = sumPl ps + m ∧ ∀ p ∈ put ps t m, 0 ≤ p.2 := by
  induction ps with
  | nil => simp [put, sumPl, hm]
  | cons p ps ih =>
    have h2 := h p (by simp)
    have h3 := sumPl_nonneg (fun x hx => h x (List.mem_cons_of_mem _ hx))
    rw [sumPl_cons] at hb
    obtain ⟨i1, i2⟩ := ih (fun x hx => h x (List.mem_cons_of_mem _ hx)) (by omega)
    obtain ⟨s, q⟩ := p
    have hw : IntKind.i64.wrap (q + m) = q + m := IntWalk.i64_in _ (by simp only at h2 hb; omega)
    unfold put
    repeat' split
    all_goals first
      | (refine ⟨?_, fun x hx => ?_⟩
         · simp only [sumPl_cons, hw, i1]; omega
         · rcases List.mem_cons.1 hx with rfl | hx
           · first | exact hm | exact h2 | (show 0 ≤ IntKind.i64.wrap (q + m); rw [hw]; omega)
           · first | exact h x (List.mem_cons_of_mem _ hx) | exact i2 x hx | exact h x hx)
theorem sum_canonFrom {es : List Pl} : ∀ {ps : List Pl}, (∀ p ∈ ps, 0 ≤ p.2) → (∀ e ∈ es, 0 ≤ e.2) → sumPl ps + sumPl es ≤ 1000000000000 → sumPl (canonFrom ps es) = sumPl ps + sumPl es := by
  induction es with
  | nil => intro ps _ _ _; simp [canonFrom_nil, sumPl]
  | cons e es ih =>
    intro ps h1 h2 h3
    have h4 := h2 e (by simp)
    have h5 := sumPl_nonneg (fun x hx => h2 x (List.mem_cons_of_mem _ hx))
    rw [sumPl_cons] at h3
    obtain ⟨i1, i2⟩ := sum_put (t := e.1) h1 h4 (by omega)
    rw [canonFrom_cons, ih i2 (fun x hx => h2 x (List.mem_cons_of_mem _ hx)) (by omega), i1, sumPl_cons]
    omega
theorem sumPl_le {ps : List Pl} (h : ∀ p ∈ ps, p.2 ≤ 99) : sumPl ps ≤ 99 * ps.length := by
  induction ps with
  | nil => simp [sumPl]
  | cons p ps ih =>
    have h1 := ih (fun x hx => h x (List.mem_cons_of_mem _ hx))
    have h2 := h p (by simp)
    rw [sumPl_cons, List.length_cons]
    omega
theorem sum_canon {es : List Pl} (h : Small es) (hl : es.length ≤ 1000000) : sumPl (canon es) = sumPl es := by
  have h1 := sumPl_le (fun p hp => (h.1 p hp).2)
  have := sum_canonFrom (es := es) (ps := []) (by simp) (fun e he => (h.1 e he).1) (by have : sumPl [] = 0 := rfl; omega)
  unfold canon
  rw [this]
  simp [sumPl]
theorem pTotal_tot {bs : List Bt} (h : totOK bs = true) : pTotal (totRes bs) = sumPl (liveEs bs) := by
  have hr : totRes bs = canon (liveEs bs) := by rw [totRes, h]; rfl
  unfold totOK at h
  rw [Bool.and_eq_true] at h
  obtain ⟨h1, h2⟩ := live_small h.1
  rw [hr, pTotal, if_pos h.2, sum_canon h1 (by omega)]
end Go.Proofs.Ytbhchlnbhimcpaa
