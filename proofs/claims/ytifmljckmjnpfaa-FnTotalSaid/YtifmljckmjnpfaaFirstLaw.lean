/-
  First preferences of piles together: plain Lean.
-/
import Derived.Test.YtifmljckmjnpfaaFirst
import Derived.Test.YtifmljckmjnpfaaPilesTotal
import Derived.Test.YtifmljckmjnpfaaGroups
namespace Go.Proofs.Ytifmljckmjnpfaa
open Go.RowKit
set_option linter.unusedVariables false

/-- The ballots whose text is of a kind. -/
def sumF (f : ByteArray → Bool) (ps : List Pl) : Int := sumPl (ps.filter fun p => f p.1)
theorem sumF_cons (f : ByteArray → Bool) (p : Pl) (ps : List Pl) : sumF f (p :: ps) = (if f p.1 then p.2 else 0) + sumF f ps := by
  unfold sumF
  rw [List.filter_cons]
  split
  · rw [sumPl_cons]
  · omega
theorem sumF_nil (f : ByteArray → Bool) : sumF f [] = 0 := rfl
theorem sumF_app (f : ByteArray → Bool) (a b : List Pl) : sumF f (a ++ b) = sumF f a + sumF f b := by
  unfold sumF
  rw [List.filter_append, sumPl_app]
theorem sumF_le {f : ByteArray → Bool} {ps : List Pl} (h : ∀ p ∈ ps, 0 ≤ p.2) : 0 ≤ sumF f ps ∧ sumF f ps ≤ sumPl ps := by
  induction ps with
  | nil => exact ⟨Int.le_refl 0, Int.le_refl 0⟩
  | cons p ps ih =>
    have h1 := ih (fun x hx => h x (List.mem_cons_of_mem _ hx))
    have h2 := h p (by simp)
    rw [sumF_cons, sumPl_cons]
    split <;> omega
theorem sumF_put {f : ByteArray → Bool} {ps : List Pl} {t : ByteArray} {m : Int} (h : ∀ p ∈ ps, 0 ≤ p.2) (hm : 0 ≤ m) (hb : sumPl ps + m ≤ 1000000000000) : sumF f (put ps t m) = sumF f ps + (if f t then m else 0) := by
  induction ps with
  | nil =>
    rw [put, sumF_cons, sumF_nil]
    show (if f t then m else 0) + 0 = 0 + (if f t then m else 0)
    omega
  | cons p ps ih =>
    have h2 := h p (by simp)
    have h3 := sumPl_nonneg (fun x hx => h x (List.mem_cons_of_mem _ hx))
    rw [sumPl_cons] at hb
    have i1 := ih (fun x hx => h x (List.mem_cons_of_mem _ hx)) (by omega)
    obtain ⟨s, q⟩ := p
    have hw : IntKind.i64.wrap (q + m) = q + m := IntWalk.i64_in _ (by simp only at h2 hb; omega)
    unfold put
    split
    · rw [sumF_cons, sumF_cons, i1]; omega
    · split
      · rename_i h4 h5
        have h5 : s = t := h5
        subst h5
        rw [sumF_cons, sumF_cons]
        show (if f s then IntKind.i64.wrap (q + m) else 0) + _ = (if f s then q else 0) + _ + _
        rw [hw]
        split <;> omega
      · rw [sumF_cons, sumF_cons]
        show (if f t then m else 0) + _ = _
        omega
theorem sumF_canonFrom {f : ByteArray → Bool} {es : List Pl} : ∀ {ps : List Pl}, (∀ p ∈ ps, 0 ≤ p.2) → (∀ e ∈ es, 0 ≤ e.2) → sumPl ps + sumPl es ≤ 1000000000000 → sumF f (canonFrom ps es) = sumF f ps + sumF f es := by
  induction es with
  | nil => intro ps _ _ _; rw [canonFrom_nil, sumF_nil]; omega
  | cons e es ih =>
    intro ps h1 h2 h3
    have h4 := h2 e (by simp)
    have h5 := sumPl_nonneg (fun x hx => h2 x (List.mem_cons_of_mem _ hx))
    rw [sumPl_cons] at h3
    obtain ⟨i1, i2⟩ := sum_put (t := e.1) h1 h4 (by omega)
    rw [canonFrom_cons, ih i2 (fun x hx => h2 x (List.mem_cons_of_mem _ hx)) (by omega), sumF_put h1 h4 (by omega), sumF_cons]
    omega
theorem sumF_canon {f : ByteArray → Bool} {es : List Pl} (h : Small es) (hl : es.length ≤ 1000000) : sumF f (canon es) = sumF f es := by
  have h1 := sumPl_le (fun p hp => (h.1 p hp).2)
  have := sumF_canonFrom (f := f) (es := es) (ps := []) (by simp) (fun e he => (h.1 e he).1) (by have : sumPl [] = 0 := rfl; omega)
  unfold canon
  rw [this, sumF_nil]
  omega
/-- Is c the first of a ballot? -/
def isFirst (left : List Bool) (c : Nat) (t : ByteArray) : Bool := bFirst left (ballotOf t) == (c : Int)
theorem fCounts_at {left : List Bool} {c : Nat} (hc : c < left.length) (ps : List Pl) : (fCounts left ps)[c]? = some (sumF (isFirst left c) ps) := by
  induction ps using snoc_rec with
  | h0 => simp [fCounts, hc, sumF_nil]
  | h1 ps p ih =>
    rw [fCounts_snoc, sumF_app, sumF_cons, sumF_nil]
    unfold bump
    by_cases h0 : 0 ≤ bFirst left (ballotOf p.1)
    · rw [if_pos h0]
      by_cases he : bFirst left (ballotOf p.1) = (c : Int)
      · have hf : isFirst left c p.1 = true := by simp [isFirst, he]
        have ht : (bFirst left (ballotOf p.1)).toNat = c := by omega
        rw [ht, List.getElem?_set_self (by rw [fCounts_len]; exact hc), hf, List.getD_eq_getElem?_getD, ih]
        simp
      · have hf : isFirst left c p.1 = false := by simp [isFirst, he]
        rw [List.getElem?_set_ne (by omega), ih, hf]
        simp
    · have hf : isFirst left c p.1 = false := by
        unfold isFirst
        rw [beq_eq_false_iff_ne]
        omega
      rw [if_neg h0, ih, hf]
      simp
theorem fCounts_ext {left : List Bool} {ps qs : List Pl} (h : ∀ f, sumF f ps = sumF f qs) : fCounts left ps = fCounts left qs := by
  apply List.ext_getElem?
  intro c
  by_cases hc : c < left.length
  · rw [fCounts_at hc, fCounts_at hc, h]
  · rw [List.getElem?_eq_none (by rw [fCounts_len]; omega), List.getElem?_eq_none (by rw [fCounts_len]; omega)]
/-- Valid piles fit five candidates. -/
theorem fit5 {ps : List Pl} (h : pilesOK ps = true) : fitOK ps 5 = true := by
  unfold fitOK
  rw [h, List.all_eq_true.2 (fun p hp => plOK_ballot (((pilesOK_iff ps).1 h).1 p hp))]
  rfl
end Go.Proofs.Ytifmljckmjnpfaa
