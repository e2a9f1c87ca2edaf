/-
  Groups of things that have weights: plain Lean, no program is walked here.
-/
import Derived.Test.YtifmljckmjnpfaaPilesMem
namespace Go.Proofs.Ytifmljckmjnpfaa
open Go.RowKit
set_option linter.unusedVariables false

section
variable {α β : Type}
def wsum (wt : α → Int) (g : List α) : Int := (g.map wt).sum
theorem wsum_nil (wt : α → Int) : wsum wt [] = 0 := rfl
theorem wsum_snoc (wt : α → Int) (g : List α) (x : α) : wsum wt (g ++ [x]) = wsum wt g + wt x := by simp [wsum]
theorem wsum_app (wt : α → Int) (g h : List α) : wsum wt (g ++ h) = wsum wt g + wsum wt h := by simp [wsum]
theorem wsum_map (wt : β → Int) (f : α → β) (g : List α) : wsum wt (g.map f) = wsum (fun x => wt (f x)) g := by simp [wsum, Function.comp_def]
theorem wsum_congr {wt wt' : α → Int} {g : List α} (h : ∀ x ∈ g, wt x = wt' x) : wsum wt g = wsum wt' g := by
  unfold wsum
  rw [List.map_congr_left h]
theorem wsum_nonneg {wt : α → Int} {g : List α} (h : ∀ x ∈ g, 0 ≤ wt x) : 0 ≤ wsum wt g := by
  induction g with
  | nil => exact Int.le_refl 0
  | cons x g ih =>
    have h1 := ih (fun y hy => h y (List.mem_cons_of_mem _ hy))
    have h2 := h x (by simp)
    have h3 : wsum wt (x :: g) = wt x + wsum wt g := by simp [wsum]
    omega
theorem wsum_bound {wt : α → Int} {M : Int} {g : List α} (h : ∀ x ∈ g, wt x ≤ M) : wsum wt g ≤ M * g.length := by
  induction g with
  | nil => simp [wsum]
  | cons x g ih =>
    have h1 := ih (fun y hy => h y (List.mem_cons_of_mem _ hy))
    have h2 := h x (by simp)
    have h3 : wsum wt (x :: g) = wt x + wsum wt g := by simp [wsum]
    rw [h3, List.length_cons, Int.natCast_succ, Int.mul_add]
    omega

/-- One more: the groups that are done, the group under way, its weight. -/
def gStep (wt : α → Int) (least : Int) (s : List (List α) × List α × Int) (x : α) : List (List α) × List α × Int :=
  if least ≤ s.2.2 + wt x then (s.1 ++ [s.2.1 ++ [x]], [], 0) else (s.1, s.2.1 ++ [x], s.2.2 + wt x)
def gRun (wt : α → Int) (least : Int) (xs : List α) : List (List α) × List α × Int := xs.foldl (gStep wt least) ([], [], 0)
/-- What is left belongs to the last group. -/
def gJoin (out : List (List α)) (g : List α) : List (List α) :=
  match g with
  | [] => out
  | _ => match out.getLast? with
    | none => [g]
    | some l => out.dropLast ++ [l ++ g]
def groups (wt : α → Int) (least : Int) (xs : List α) : List (List α) := gJoin (gRun wt least xs).1 (gRun wt least xs).2.1

theorem gRun_nil (wt : α → Int) (least : Int) : gRun wt least [] = ([], [], 0) := rfl
theorem gRun_snoc (wt : α → Int) (least : Int) (xs : List α) (x : α) : gRun wt least (xs ++ [x]) = gStep wt least (gRun wt least xs) x := by
  simp [gRun, List.foldl_append]
theorem snoc_rec {motive : List α → Prop} (h0 : motive []) (h1 : ∀ xs x, motive xs → motive (xs ++ [x])) (xs : List α) : motive xs := by
  have h : ∀ ys : List α, motive ys.reverse := by
    intro ys
    induction ys with
    | nil => exact h0
    | cons y ys ih => rw [List.reverse_cons]; exact h1 _ _ ih
  have := h xs.reverse
  rwa [List.reverse_reverse] at this
theorem gRun_flat (wt : α → Int) (least : Int) (xs : List α) : (gRun wt least xs).1.flatten ++ (gRun wt least xs).2.1 = xs := by
  induction xs using snoc_rec with
  | h0 => rfl
  | h1 xs x ih =>
    rw [gRun_snoc]
    unfold gStep
    split
    · simp only [List.flatten_append, List.flatten_cons, List.flatten_nil, List.append_nil, ← List.append_assoc]
      rw [ih]
    · rw [← List.append_assoc, ih]
theorem gRun_sum (wt : α → Int) (least : Int) (xs : List α) : (gRun wt least xs).2.2 = wsum wt (gRun wt least xs).2.1 := by
  induction xs using snoc_rec with
  | h0 => rfl
  | h1 xs x ih =>
    rw [gRun_snoc]
    unfold gStep
    split
    · rfl
    · simp only; rw [wsum_snoc, ih]
theorem gRun_small (wt : α → Int) {least : Int} (h : 0 < least) (xs : List α) : (gRun wt least xs).2.2 < least := by
  induction xs using snoc_rec with
  | h0 => exact h
  | h1 xs x ih =>
    rw [gRun_snoc]
    unfold gStep
    split
    · exact h
    · simp only; omega
theorem gRun_done (wt : α → Int) {least : Int} (h : 0 < least) (xs : List α) : ∀ g ∈ (gRun wt least xs).1, g ≠ [] ∧ least ≤ wsum wt g ∧ wsum wt g.dropLast < least := by
  induction xs using snoc_rec with
  | h0 => intro g hg; cases hg
  | h1 xs x ih =>
    rw [gRun_snoc]
    unfold gStep
    split
    · rename_i hle
      intro g hg
      rcases List.mem_append.1 hg with hg | hg
      · exact ih g hg
      · rw [List.mem_singleton.1 hg]
        refine ⟨by simp, ?_, ?_⟩
        · rw [wsum_snoc, ← gRun_sum]; exact hle
        · rw [List.dropLast_concat, ← gRun_sum]; exact gRun_small wt h xs
    · exact ih
theorem gRun_ne (wt : α → Int) (least : Int) (xs : List α) : ∀ g ∈ (gRun wt least xs).1, g ≠ [] := by
  induction xs using snoc_rec with
  | h0 => intro g hg; cases hg
  | h1 xs x ih =>
    rw [gRun_snoc]
    unfold gStep
    split
    · intro g hg
      rcases List.mem_append.1 hg with hg | hg
      · exact ih g hg
      · rw [List.mem_singleton.1 hg]; simp
    · exact ih

theorem gJoin_nil (out : List (List α)) : gJoin out [] = out := rfl
theorem gJoin_none {g : List α} (h : g ≠ []) : gJoin [] g = [g] := by
  cases g with
  | nil => exact absurd rfl h
  | cons x g => rfl
theorem gJoin_snoc (out : List (List α)) (l : List α) {g : List α} (h : g ≠ []) : gJoin (out ++ [l]) g = out ++ [l ++ g] := by
  cases g with
  | nil => exact absurd rfl h
  | cons x g => simp [gJoin]
/-- A list is empty, or ends with something. -/
theorem last_cases (out : List β) : out = [] ∨ ∃ o l, out = o ++ [l] := by
  induction out using snoc_rec with
  | h0 => exact .inl rfl
  | h1 o l _ => exact .inr ⟨o, l, rfl⟩
theorem gJoin_flat (out : List (List α)) (g : List α) : (gJoin out g).flatten = out.flatten ++ g := by
  by_cases hg : g = []
  · subst hg; rw [gJoin_nil, List.append_nil]
  · rcases last_cases out with rfl | ⟨o, l, rfl⟩
    · rw [gJoin_none hg]; simp
    · rw [gJoin_snoc _ _ hg]; simp
theorem groups_flat (wt : α → Int) (least : Int) (xs : List α) : (groups wt least xs).flatten = xs := by rw [groups, gJoin_flat, gRun_flat]
theorem gJoin_ne {out : List (List α)} {g : List α} (h : ∀ x ∈ out, x ≠ []) : ∀ x ∈ gJoin out g, x ≠ [] := by
  by_cases hg : g = []
  · subst hg; exact h
  · rcases last_cases out with rfl | ⟨o, l, rfl⟩
    · rw [gJoin_none hg]; intro x hx; rw [List.mem_singleton.1 hx]; exact hg
    · rw [gJoin_snoc _ _ hg]
      intro x hx
      rcases List.mem_append.1 hx with hx | hx
      · exact h x (List.mem_append_left _ hx)
      · rw [List.mem_singleton.1 hx]
        intro e
        exact hg (List.append_eq_nil_iff.1 e).2
theorem groups_ne (wt : α → Int) (least : Int) (xs : List α) : ∀ g ∈ groups wt least xs, g ≠ [] := gJoin_ne (gRun_ne wt least xs)
theorem gStep_map (wt : β → Int) (least : Int) (f : α → β) (s : List (List α) × List α × Int) (x : α) :
    gStep wt least (s.1.map (List.map f), s.2.1.map f, s.2.2) (f x) = ((gStep (fun x => wt (f x)) least s x).1.map (List.map f), (gStep (fun x => wt (f x)) least s x).2.1.map f, (gStep (fun x => wt (f x)) least s x).2.2) := by
  unfold gStep
  split <;> simp
theorem gRun_map (wt : β → Int) (least : Int) (f : α → β) (xs : List α) :
    gRun wt least (xs.map f) = ((gRun (fun x => wt (f x)) least xs).1.map (List.map f), (gRun (fun x => wt (f x)) least xs).2.1.map f, (gRun (fun x => wt (f x)) least xs).2.2) := by
  induction xs using snoc_rec with
  | h0 => rfl
  | h1 xs x ih => rw [List.map_append, List.map_cons, List.map_nil, gRun_snoc, gRun_snoc, ih, gStep_map]
theorem gJoin_map (f : α → β) (out : List (List α)) (g : List α) : gJoin (out.map (List.map f)) (g.map f) = (gJoin out g).map (List.map f) := by
  by_cases hg : g = []
  · subst hg; rfl
  · have hg' : g.map f ≠ [] := by simpa using hg
    rcases last_cases out with rfl | ⟨o, l, rfl⟩
    · rw [List.map_nil, gJoin_none hg', gJoin_none hg]; rfl
    · rw [List.map_append, List.map_cons, List.map_nil, gJoin_snoc _ _ hg', gJoin_snoc _ _ hg]; simp
theorem groups_map (wt : β → Int) (least : Int) (f : α → β) (xs : List α) : groups wt least (xs.map f) = (groups (fun x => wt (f x)) least xs).map (List.map f) := by
  unfold groups
  rw [gRun_map, gJoin_map]
theorem gRun_congr {wt wt' : α → Int} {least : Int} {xs : List α} (h : ∀ x ∈ xs, wt x = wt' x) : gRun wt least xs = gRun wt' least xs := by
  induction xs using snoc_rec with
  | h0 => rfl
  | h1 xs x ih =>
    rw [gRun_snoc, gRun_snoc, ih (fun y hy => h y (List.mem_append_left _ hy))]
    unfold gStep
    rw [h x (by simp)]
theorem groups_congr {wt wt' : α → Int} {least : Int} {xs : List α} (h : ∀ x ∈ xs, wt x = wt' x) : groups wt least xs = groups wt' least xs := by
  unfold groups
  rw [gRun_congr h]
/-- Where there are two groups or more, none is too small. -/
theorem groups_enough {wt : α → Int} {least : Int} {xs : List α} (hl : 0 < least) (h0 : ∀ x ∈ xs, 0 ≤ wt x) (h2 : 2 ≤ (groups wt least xs).length) : ∀ g ∈ groups wt least xs, least ≤ wsum wt g := by
  have hd := gRun_done wt hl xs
  have hf := gRun_flat wt least xs
  unfold groups at h2 ⊢
  by_cases hg : (gRun wt least xs).2.1 = []
  · rw [hg, gJoin_nil]
    exact fun g h => (hd g h).2.1
  · rcases last_cases (gRun wt least xs).1 with e | ⟨o, l, e⟩
    · rw [e, gJoin_none hg] at h2
      simp at h2
    · rw [e, gJoin_snoc _ _ hg]
      rw [e] at hd hf
      intro g h
      rcases List.mem_append.1 h with h | h
      · exact (hd g (List.mem_append_left _ h)).2.1
      · rw [List.mem_singleton.1 h, wsum_app]
        have h1 := (hd l (by simp)).2.1
        have h3 : 0 ≤ wsum wt (gRun wt least xs).2.1 := wsum_nonneg (fun x hx => h0 x (by rw [← hf]; exact List.mem_append_right _ hx))
        omega
/-- All groups but the last one end as soon as they are large enough. -/
theorem groups_small {wt : α → Int} {least : Int} {xs : List α} (hl : 0 < least) : ∀ g ∈ (groups wt least xs).dropLast, wsum wt g.dropLast < least := by
  have hd := gRun_done wt hl xs
  unfold groups
  by_cases hg : (gRun wt least xs).2.1 = []
  · rw [hg, gJoin_nil]
    exact fun g h => (hd g (List.dropLast_subset _ h)).2.2
  · rcases last_cases (gRun wt least xs).1 with e | ⟨o, l, e⟩
    · rw [e, gJoin_none hg]
      intro g h
      cases h
    · rw [e, gJoin_snoc _ _ hg, List.dropLast_concat]
      rw [e] at hd
      exact fun g h => (hd g (List.mem_append_left _ h)).2.2
theorem groups_nil (wt : α → Int) (least : Int) : groups wt least [] = [] := rfl
theorem gStep_yes {wt : α → Int} {least : Int} {o : List (List α)} {g : List α} {s : Int} {x : α} (h : least ≤ s + wt x) : gStep wt least (o, g, s) x = (o ++ [g ++ [x]], [], 0) := by unfold gStep; rw [if_pos h]
theorem gStep_no {wt : α → Int} {least : Int} {o : List (List α)} {g : List α} {s : Int} {x : α} (h : s + wt x < least) : gStep wt least (o, g, s) x = (o, g ++ [x], s + wt x) := by
  unfold gStep
  rw [if_neg (by show ¬ least ≤ s + wt x; omega)]
end
end Go.Proofs.Ytifmljckmjnpfaa
