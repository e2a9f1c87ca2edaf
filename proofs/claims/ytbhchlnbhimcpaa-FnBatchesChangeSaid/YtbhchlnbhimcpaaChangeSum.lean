/-
  What changes, both ways alike, and no less than the sums differ.
-/
import Derived.Test.YtbhchlnbhimcpaaChangeZero
namespace Go.Proofs.Ytbhchlnbhimcpaa
open Go.RowKit
set_option linter.unusedVariables false

theorem ind_sum {xs : List Pl} (ha : Asc xs) (hv : ∀ p ∈ xs, 1 ≤ p.2) (t : ByteArray) (φ : Int → Int) : (xs.map fun x => if t = x.1 then φ x.2 else 0).sum = if look xs t = 0 then 0 else φ (look xs t) := by
  induction xs with
  | nil => rfl
  | cons p xs ih =>
    have h1 := ih (List.pairwise_cons.1 ha).2 (fun x hx => hv x (List.mem_cons_of_mem _ hx))
    have h2 := hv p (by simp)
    rw [List.map_cons, List.sum_cons, h1, look]
    by_cases e : t = p.1
    · subst e
      rw [if_pos rfl, if_pos rfl, look_none (asc_head ha), if_pos rfl, if_neg (by omega)]
      omega
    · rw [if_neg e, if_neg (show ¬ p.1 = t from fun h => e h.symm), Int.zero_add]
theorem map_sum_add {α : Type} (l : List α) (f g : α → Int) : (l.map fun x => f x + g x).sum = (l.map f).sum + (l.map g).sum := by
  induction l with
  | nil => rfl
  | cons a l ih => rw [List.map_cons, List.sum_cons, List.map_cons, List.sum_cons, List.map_cons, List.sum_cons, ih]; omega
theorem swap_sum {xs ys : List Pl} (ha : Asc xs) (hv : ∀ p ∈ xs, 1 ≤ p.2) (hb : Asc ys) (ψ : Int → Int → Int) (h0 : ∀ a, ψ a 0 = 0) :
    (xs.map fun x => ψ x.2 (look ys x.1)).sum = (ys.map fun y => if look xs y.1 = 0 then 0 else ψ (look xs y.1) y.2).sum := by
  induction ys with
  | nil =>
    show (xs.map fun x => ψ x.2 0).sum = 0
    induction xs with
    | nil => rfl
    | cons p xs ih => rw [List.map_cons, List.sum_cons, h0, ih (List.pairwise_cons.1 ha).2 (fun x hx => hv x (List.mem_cons_of_mem _ hx))]; rfl
  | cons y ys ih =>
    rw [List.map_cons, List.sum_cons, ← ih (List.pairwise_cons.1 hb).2, ← ind_sum ha hv y.1 (fun a => ψ a y.2), ← map_sum_add]
    congr 1
    refine List.map_congr_left (fun x hx => ?_)
    show ψ x.2 (look (y :: ys) x.1) = _
    rw [look]
    by_cases e : y.1 = x.1
    · rw [if_pos e, if_pos e, ← e, look_none (asc_head hb), h0]; omega
    · rw [if_neg e, if_neg e]; omega
theorem sumPl_map (xs : List Pl) : sumPl xs = (xs.map fun x => x.2).sum := rfl
/-- What both have. -/
def both (xs ys : List Pl) : Int := (xs.map fun x => min x.2 (look ys x.1)).sum
theorem both_comm {xs ys : List Pl} (hx : Vld xs) (hy : Vld ys) : both xs ys = both ys xs := by
  have h1 := swap_sum hx.asc (fun p hp => (hx.val p hp).1) hy.asc (fun a l => if l ≤ 0 then 0 else min a l) (fun a => by simp)
  have h2 : both xs ys = (xs.map fun x => (fun a l : Int => if l ≤ 0 then 0 else min a l) x.2 (look ys x.1)).sum := by
    unfold both
    congr 1
    refine List.map_congr_left (fun x hx' => ?_)
    have := hx.val x hx'
    have := hy.look x.1
    show min x.2 (look ys x.1) = if look ys x.1 ≤ 0 then 0 else min x.2 (look ys x.1)
    split <;> omega
  rw [h2, h1]
  unfold both
  congr 1
  refine List.map_congr_left (fun y hy' => ?_)
  have h3 := hy.val y hy'
  have h4 := hx.look y.1
  show (if look xs y.1 = 0 then 0 else if y.2 ≤ 0 then 0 else min (look xs y.1) y.2) = min y.2 (look xs y.1)
  split
  · omega
  · split <;> omega
theorem chgY_sum (xs ys : List Pl) : sumPl (chgY xs ys) = (ys.map fun y => if look xs y.1 = 0 then y.2 else 0).sum := by
  induction ys with
  | nil => rfl
  | cons y ys ih =>
    unfold chgY at ih ⊢
    rw [List.map_cons, List.sum_cons, ← ih]
    by_cases h : look xs y.1 = 0
    · rw [List.filter_cons_of_pos (by simpa using h), sumPl_cons, if_pos h]
    · rw [List.filter_cons_of_neg (by simpa using h), if_neg h]; omega
theorem chg_both {xs ys : List Pl} (hx : Vld xs) (hy : Vld ys) : sumPl (chgL xs ys) = sumPl xs + sumPl ys - 2 * both xs ys := by
  have hA := swap_sum hx.asc (fun p hp => (hx.val p hp).1) hy.asc (fun _ l => l) (fun _ => rfl)
  have hB : (ys.map fun y => if look xs y.1 = 0 then y.2 else 0).sum + (ys.map fun y => if look xs y.1 = 0 then 0 else y.2).sum = sumPl ys := by
    rw [← map_sum_add, sumPl_map]
    congr 1
    refine List.map_congr_left (fun y _ => ?_)
    split <;> omega
  have hC : sumPl (chgX ys xs) + 2 * both xs ys = sumPl xs + (xs.map fun x => look ys x.1).sum := by
    have : sumPl (chgX ys xs) = (xs.map fun x => mx (x.2 - look ys x.1)).sum := by
      unfold sumPl chgX
      rw [List.map_map]
      rfl
    rw [this, sumPl_map, ← map_sum_add]
    have h2 : 2 * both xs ys = (xs.map fun x => min x.2 (look ys x.1)).sum + (xs.map fun x => min x.2 (look ys x.1)).sum := by unfold both; omega
    rw [h2, ← map_sum_add, ← map_sum_add]
    congr 1
    refine List.map_congr_left (fun x hx' => ?_)
    rw [mx_max]
    omega
  have hD : sumPl (chgL xs ys) = sumPl (chgX ys xs) + sumPl (chgY xs ys) := by rw [chgL, sumPl_app]
  have hE := chgY_sum xs ys
  omega
theorem both_le {xs ys : List Pl} (hx : Vld xs) : both xs ys ≤ sumPl xs := by
  have : ∀ l : List Pl, (l.map fun x => min x.2 (look ys x.1)).sum ≤ (l.map fun x => x.2).sum := by
    intro l
    induction l with
    | nil => exact Int.le_refl _
    | cons p l ih => rw [List.map_cons, List.sum_cons, List.map_cons, List.sum_cons]; omega
  exact this xs
theorem chg_comm {xs ys : List Pl} (hx : Vld xs) (hy : Vld ys) : sumPl (chgL xs ys) = sumPl (chgL ys xs) := by
  rw [chg_both hx hy, chg_both hy hx, both_comm hx hy]; omega
theorem chg_ge {xs ys : List Pl} (hx : Vld xs) (hy : Vld ys) : max (sumPl xs - sumPl ys) (-(sumPl xs - sumPl ys)) ≤ sumPl (chgL xs ys) := by
  have h1 := both_le (ys := ys) hx
  have h2 := both_le (ys := xs) hy
  have h3 := both_comm hx hy
  rw [chg_both hx hy]
  omega
end Go.Proofs.Ytbhchlnbhimcpaa
