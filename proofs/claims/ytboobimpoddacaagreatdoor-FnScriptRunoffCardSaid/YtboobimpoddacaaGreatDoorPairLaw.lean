/-
  Comparison two by two, plainly: preferences, tables, strongest paths, the best ones.
-/
import Derived.Test.YtboobimpoddacaaGreatDoorPackB
namespace Go.Proofs.YtboobimpoddacaaGreatDoor
open Go.RowKit
set_option linter.unusedVariables false

theorem idx_cons (z : Int) (t : List Int) (x : Int) : idx (z :: t) x = if z = x then 0 else if x ∈ t then idx t x + 1 else -1 := by
  unfold idx
  by_cases hz : z = x
  · subst hz
    simp
  · rw [if_neg hz]
    have h1 : (x ∈ z :: t) ↔ x ∈ t := by
      constructor
      · intro h
        rcases List.mem_cons.1 h with h | h
        · exact absurd h.symm hz
        · exact h
      · exact List.mem_cons_of_mem _
    by_cases hx : x ∈ t
    · rw [if_pos (h1.2 hx), if_pos hx, if_pos hx, List.idxOf_cons]
      have e : (z == x) = false := by simpa using hz
      rw [e]
      simp
    · rw [if_neg (fun h => hx (h1.1 h)), if_neg hx]
theorem idx_ge (t : List Int) (x : Int) : -1 ≤ idx t x := by unfold idx; split <;> omega
theorem idx_mem {t : List Int} {x : Int} (h : x ∈ t) : 0 ≤ idx t x := by unfold idx; rw [if_pos h]; omega
/-- A ballot prefers one to another. -/
def prefL (x y : Int) : List Int → Bool
  | [] => false
  | z :: t => if z = x ∨ z = y then decide (z = x) else prefL x y t
theorem prefL_idx (x y : Int) (h : x ≠ y) : ∀ b : List Int, prefL x y b = (decide (0 ≤ idx b x) && (decide (idx b y < 0) || decide (idx b x < idx b y)))
  | [] => by simp [prefL, idx]
  | z :: t => by
    rw [prefL, idx_cons, idx_cons]
    by_cases hx : z = x
    · subst hx
      have h2 : ¬ z = y := h
      rw [if_pos (.inl rfl), if_pos rfl, if_neg h2]
      by_cases hy : y ∈ t
      · have := idx_mem hy
        rw [if_pos hy]
        simp
        omega
      · rw [if_neg hy]
        simp
    · rw [if_neg hx]
      by_cases hy : z = y
      · subst hy
        rw [if_pos (.inr rfl), if_pos rfl]
        by_cases hxt : x ∈ t
        · have := idx_mem hxt
          rw [if_pos hxt]
          have e : decide (z = x) = false := by simpa using hx
          rw [e]
          simp
        · rw [if_neg hxt]
          simp [hx]
      · rw [if_neg (by rintro (h | h); exact hx h; exact hy h), if_neg hy, prefL_idx x y h t]
        by_cases hxt : x ∈ t
        · have := idx_mem hxt
          by_cases hyt : y ∈ t
          · have := idx_mem hyt
            rw [if_pos hxt, if_pos hyt]
            have e1 : decide (0 ≤ idx t x) = true := by simpa
            have e2 : decide (0 ≤ idx t x + 1) = true := by simp; omega
            have e3 : decide (idx t y < 0) = false := by simp; omega
            have e4 : decide (idx t y + 1 < 0) = false := by simp; omega
            have e5 : decide (idx t x + 1 < idx t y + 1) = decide (idx t x < idx t y) := by rw [decide_eq_decide]; omega
            rw [e1, e2, e3, e4, e5]
          · have e0 : idx t y = -1 := idx_no hyt
            rw [if_pos hxt, if_neg hyt, e0]
            simp
            omega
        · have e0 : idx t x = -1 := idx_no hxt
          rw [if_neg hxt, e0]
          simp
def pref (b : List Int) (x y : Int) : Bool := !decide (x = y) && prefL x y b
theorem pref_first {b : List Int} {x : Int} (y : Int) (h : b.head? = some x) (hne : x ≠ y) : pref b x y = true := by
  cases b with
  | nil => cases h
  | cons z t =>
    simp at h
    subst h
    simp [pref, prefL, hne]
theorem pref_asym (x y : Int) : ∀ b : List Int, pref b x y = true → pref b y x = false := by
  intro b h
  unfold pref at h ⊢
  rw [Bool.and_eq_true] at h
  obtain ⟨h1, h2⟩ := h
  have h1 : x ≠ y := by simpa using h1
  have : prefL y x b = false := by
    induction b with
    | nil => rfl
    | cons z t ih =>
      rw [prefL] at h2 ⊢
      by_cases hz : z = x ∨ z = y
      · rw [if_pos hz] at h2
        have h2 : z = x := by simpa using h2
        rw [if_pos (by rcases hz with h | h; exact .inr h; exact .inl h)]
        subst h2
        simpa using h1
      · rw [if_neg hz] at h2
        rw [if_neg (by rintro (h | h); exact hz (.inr h); exact hz (.inl h))]
        exact ih h2
  rw [this, Bool.and_false]
/-- How many ballots prefer one to another. -/
def cnt (ps : List Pl) (x y : Nat) : Int := ps.foldl (fun s p => if pref (ballotOf p.1) (x : Int) (y : Int) then s + p.2 else s) 0
theorem cnt_snoc (ps : List Pl) (p : Pl) (x y : Nat) : cnt (ps ++ [p]) x y = if pref (ballotOf p.1) (x : Int) (y : Int) then cnt ps x y + p.2 else cnt ps x y := by
  unfold cnt
  rw [List.foldl_append]
  rfl
theorem cnt_bound (x y : Nat) : ∀ ps : List Pl, (∀ p ∈ ps, 0 ≤ p.2 ∧ p.2 ≤ 99) → 0 ≤ cnt ps x y ∧ cnt ps x y ≤ 99 * (ps.length : Int) := by
  intro ps
  induction ps using snocInd with
  | nil => intro _; simp [cnt]
  | append_singleton l p ih =>
    intro h
    have h1 := ih (fun q hq => h q (by simp [hq]))
    have h2 := h p (by simp)
    rw [cnt_snoc, List.length_append, List.length_singleton]
    split <;> omega

/-- A table. -/
def tabRow (n : Nat) (f : Nat → Int) : Row := (List.range n).map f
def tabOf (n : Nat) (f : Nat → Nat → Int) : List Row := (List.range n).map fun x => tabRow n (f x)
theorem tabRow_len (n : Nat) (f : Nat → Int) : (tabRow n f).length = n := by simp [tabRow]
theorem tabOf_len (n : Nat) (f : Nat → Nat → Int) : (tabOf n f).length = n := by simp [tabOf]
theorem tabRow_at {n k : Nat} (f : Nat → Int) (h : k < n) : (tabRow n f)[k]? = some (f k) := by simp [tabRow, h]
theorem tabOf_at {n k : Nat} (f : Nat → Nat → Int) (h : k < n) : (tabOf n f)[k]? = some (tabRow n (f k)) := by simp [tabOf, h]
theorem tabRow_ext {n : Nat} {f g : Nat → Int} (h : ∀ k, k < n → f k = g k) : tabRow n f = tabRow n g := by
  unfold tabRow
  exact List.map_congr_left (fun k hk => h k (List.mem_range.1 hk))
theorem tabOf_ext {n : Nat} {f g : Nat → Nat → Int} (h : ∀ x y, x < n → y < n → f x y = g x y) : tabOf n f = tabOf n g := by
  unfold tabOf
  exact List.map_congr_left (fun k hk => tabRow_ext (fun y hy => h k y (List.mem_range.1 hk) hy))
theorem tabRow_set {n k : Nat} (f : Nat → Int) (v : Int) : (tabRow n f).set k v = tabRow n (fun j => if j = k then v else f j) := by
  apply List.ext_getElem?
  intro j
  by_cases hj : j < n
  · rw [tabRow_at _ hj]
    by_cases hk : k = j
    · subst hk
      rw [List.getElem?_set_self (by rw [tabRow_len]; exact hj), if_pos rfl]
    · rw [List.getElem?_set_ne hk, tabRow_at _ hj, if_neg (fun e => hk e.symm)]
  · rw [List.getElem?_eq_none (by rw [List.length_set, tabRow_len]; omega), List.getElem?_eq_none (by rw [tabRow_len]; omega)]
theorem tabOf_set {n x : Nat} (f : Nat → Nat → Int) (y : Nat) (v : Int) : (tabOf n f).set x (tabRow n (fun j => if j = y then v else f x j)) = tabOf n (fun i j => if i = x ∧ j = y then v else f i j) := by
  apply List.ext_getElem?
  intro j
  by_cases hj : j < n
  · rw [tabOf_at _ hj]
    by_cases hk : x = j
    · subst hk
      rw [List.getElem?_set_self (by rw [tabOf_len]; exact hj)]
      congr 1
      exact tabRow_ext (fun k _ => by by_cases hk : k = y <;> simp [hk])
    · rw [List.getElem?_set_ne hk, tabOf_at _ hj]
      congr 1
      exact tabRow_ext (fun k _ => by rw [if_neg (fun e => hk e.1.symm)])
  · rw [List.getElem?_eq_none (by rw [List.length_set, tabOf_len]; omega), List.getElem?_eq_none (by rw [tabOf_len]; omega)]
/-- The strengths of the steps. -/
def path0 (C : Nat → Nat → Int) (x y : Nat) : Int := if C y x < C x y then C x y else 0
/-- One round of the paths: over o. -/
def over (o : Nat) (P : Nat → Nat → Int) (x y : Nat) : Int := if x ≠ y then max (P x y) (min (P x o) (P o y)) else P x y
def paths (C : Nat → Nat → Int) : Nat → Nat → Nat → Int
  | 0 => path0 C
  | o + 1 => over o (paths C o)
/-- In the midst of round o: rows ahead of x, and in row x the places ahead of y, are done. -/
def mid (o : Nat) (P : Nat → Nat → Int) (x y i j : Nat) : Int := if i < x ∨ i = x ∧ j < y then over o P i j else P i j
structure PathOk (P : Nat → Nat → Int) : Prop where
  nn : ∀ x y, 0 ≤ P x y
  dg : ∀ x, P x x = 0
theorem PathOk.row {P : Nat → Nat → Int} (h : PathOk P) (o j : Nat) : over o P o j = P o j := by
  unfold over
  have := h.nn o j
  have := h.dg o
  split
  · rw [this]; omega
  · rfl
theorem PathOk.col {P : Nat → Nat → Int} (h : PathOk P) (o i : Nat) : over o P i o = P i o := by
  unfold over
  have := h.nn i o
  have := h.dg o
  split
  · rw [this]; omega
  · rfl
theorem PathOk.next {P : Nat → Nat → Int} (h : PathOk P) (o : Nat) : PathOk (over o P) := by
  refine ⟨fun x y => ?_, fun x => ?_⟩
  · unfold over
    have := h.nn x y
    split <;> omega
  · unfold over
    simp [h.dg]
theorem path0_ok (C : Nat → Nat → Int) (hC : ∀ x y, 0 ≤ C x y) : PathOk (path0 C) := by
  refine ⟨fun x y => ?_, fun x => ?_⟩
  · unfold path0
    have := hC x y
    split <;> omega
  · unfold path0
    simp
theorem paths_ok (C : Nat → Nat → Int) (hC : ∀ x y, 0 ≤ C x y) : ∀ o, PathOk (paths C o)
  | 0 => path0_ok C hC
  | o + 1 => (paths_ok C hC o).next o
theorem mid_row {P : Nat → Nat → Int} (h : PathOk P) (o x y j : Nat) : mid o P x y o j = P o j := by
  unfold mid
  split
  · exact h.row o j
  · rfl
theorem mid_col {P : Nat → Nat → Int} (h : PathOk P) (o x y i : Nat) : mid o P x y i o = P i o := by
  unfold mid
  split
  · exact h.col o i
  · rfl
theorem mid_self (o : Nat) (P : Nat → Nat → Int) (x y : Nat) : mid o P x y x y = P x y := by
  unfold mid
  rw [if_neg (by omega)]
/-- The step at x, y. -/
theorem mid_step {P : Nat → Nat → Int} (h : PathOk P) (o x y : Nat) (hxy : x ≠ y) : (fun i j => if i = x ∧ j = y then max (mid o P x y x y) (min (mid o P x y x o) (mid o P x y o y)) else mid o P x y i j) = mid o P x (y + 1) := by
  funext i j
  rw [mid_self, mid_row h, mid_col h]
  by_cases hij : i = x ∧ j = y
  · obtain ⟨rfl, rfl⟩ := hij
    rw [if_pos ⟨rfl, rfl⟩]
    unfold mid
    rw [if_pos (by omega)]
    unfold over
    rw [if_pos hxy]
  · rw [if_neg hij]
    unfold mid
    by_cases h1 : i < x ∨ i = x ∧ j < y
    · rw [if_pos h1, if_pos (by omega)]
    · rw [if_neg h1, if_neg (by omega)]
theorem mid_skip (o : Nat) (P : Nat → Nat → Int) (x : Nat) : mid o P x x = mid o P x (x + 1) := by
  funext i j
  unfold mid
  by_cases hij : i = x ∧ j = x
  · obtain ⟨rfl, rfl⟩ := hij
    rw [if_neg (by omega), if_pos (by omega)]
    unfold over
    simp
  · by_cases h1 : i < x ∨ i = x ∧ j < x
    · rw [if_pos h1, if_pos (by omega)]
    · rw [if_neg h1, if_neg (by omega)]
theorem mid_next (n o : Nat) (P : Nat → Nat → Int) (x : Nat) : tabOf n (mid o P x n) = tabOf n (mid o P (x + 1) 0) :=
  tabOf_ext (fun i j hi hj => by
    unfold mid
    by_cases h1 : i < x ∨ i = x ∧ j < n
    · rw [if_pos h1, if_pos (by omega)]
    · rw [if_neg h1, if_neg (by omega)])
theorem mid_start (o : Nat) (P : Nat → Nat → Int) : mid o P 0 0 = P := by
  funext i j
  unfold mid
  rw [if_neg (by omega)]
theorem mid_end (n o : Nat) (P : Nat → Nat → Int) : tabOf n (mid o P n 0) = tabOf n (over o P) :=
  tabOf_ext (fun i j hi hj => by
    unfold mid
    rw [if_pos (by omega)])

/-- No way round is weaker. -/
def Closed (P : Nat → Nat → Int) (o : Nat) : Prop := ∀ m x y, m < o → x ≠ y → min (P x m) (P m y) ≤ P x y
theorem over_ge (o : Nat) (P : Nat → Nat → Int) (x y : Nat) : P x y ≤ over o P x y := by
  unfold over
  split <;> omega
theorem closed_next {P : Nat → Nat → Int} {o : Nat} (h : PathOk P) (hc : Closed P o) : Closed (over o P) (o + 1) := by
  intro m x y hm hxy
  have hxo := h.nn x o
  have e0 : over o P x y = max (P x y) (min (P x o) (P o y)) := by unfold over; rw [if_pos hxy]
  rcases Nat.lt_or_ge m o with hmo | hmo
  · by_cases hxm : x = m
    · subst hxm
      have := (h.next o).dg x
      have := (h.next o).nn x y
      omega
    by_cases hmy : m = y
    · subst hmy
      have := (h.next o).dg m
      have := (h.next o).nn x m
      omega
    have e1 : over o P x m = max (P x m) (min (P x o) (P o m)) := by unfold over; rw [if_pos hxm]
    have e2 : over o P m y = max (P m y) (min (P m o) (P o y)) := by unfold over; rw [if_pos hmy]
    have c1 := hc m x y hmo hxy
    have c2 : x ≠ o → min (P x m) (P m o) ≤ P x o := fun hx => hc m x o hmo hx
    have c3 : o ≠ y → min (P o m) (P m y) ≤ P o y := fun hy => hc m o y hmo hy
    rw [e0, e1, e2]
    by_cases hx : x = o
    · subst hx
      have hd := h.dg x
      have n1 := h.nn x m
      have n2 := h.nn x y
      by_cases hy : x = y
      · exact absurd hy hxy
      · have c3 := c3 hy
        rw [hd]
        omega
    · have c2 := c2 hx
      by_cases hy : o = y
      · subst hy
        have hd := h.dg o
        have n1 := h.nn m o
        have n2 := h.nn x o
        rw [hd]
        omega
      · have c3 := c3 hy
        omega
  · obtain rfl : m = o := by omega
    rw [h.row, h.col, e0]
    omega
theorem paths_closed (C : Nat → Nat → Int) (hC : ∀ x y, 0 ≤ C x y) : ∀ o, Closed (paths C o) o
  | 0 => fun m x y hm => absurd hm (by omega)
  | o + 1 => closed_next (paths_ok C hC o) (paths_closed C hC o)
/-- The best ones. -/
def isBest (P : Nat → Nat → Int) (n x : Nat) : Bool := (List.range n).all fun y => decide (P y x ≤ P x y)
def bestL (P : Nat → Nat → Int) (n : Nat) : List Int := ((List.range n).filter (isBest P n)).map (fun (k : Nat) => (k : Int))
theorem isBest_iff {P : Nat → Nat → Int} {n x : Nat} : isBest P n x = true ↔ ∀ y, y < n → P y x ≤ P x y := by
  unfold isBest
  rw [List.all_eq_true]
  constructor
  · intro h y hy; simpa using h y (List.mem_range.2 hy)
  · intro h y hy; simpa using h y (List.mem_range.1 hy)
theorem mem_bestL {P : Nat → Nat → Int} {n : Nat} {z : Int} : z ∈ bestL P n ↔ ∃ k : Nat, z = (k : Int) ∧ k < n ∧ isBest P n k = true := by
  unfold bestL
  simp only [List.mem_map, List.mem_filter, List.mem_range]
  constructor
  · rintro ⟨a, ⟨h1, h2⟩, rfl⟩; exact ⟨a, rfl, h1, h2⟩
  · rintro ⟨a, rfl, h1, h2⟩; exact ⟨a, ⟨h1, h2⟩, rfl⟩
theorem beat_trans {P : Nat → Nat → Int} {n x y z : Nat} (hc : Closed P n) (hx : x < n) (hy : y < n) (hz : z < n) (h1 : P y x < P x y) (h2 : P z y < P y z) : P z x < P x z := by
  by_cases hxz : x = z
  · subst hxz; omega
  by_cases hxy : x = y
  · subst hxy; omega
  by_cases hyz : y = z
  · subst hyz; omega
  have a1 := hc y x z hy hxz
  have a2 := hc z y x hz (fun e => hxy e.symm)
  have a3 := hc x z y hx (fun e => hyz e.symm)
  omega
theorem max_exists {P : Nat → Nat → Int} {n : Nat} (hc : Closed P n) : ∀ l : List Nat, l ≠ [] → (∀ k ∈ l, k < n) → ∃ x ∈ l, ∀ y ∈ l, P y x ≤ P x y
  | [], h, _ => absurd rfl h
  | [a], _, _ => ⟨a, by simp, by simp⟩
  | a :: b :: l, _, hl => by
    obtain ⟨x, hx, hm⟩ := max_exists hc (b :: l) (by simp) (fun k hk => hl k (List.mem_cons_of_mem _ hk))
    by_cases h : P a x ≤ P x a
    · refine ⟨x, List.mem_cons_of_mem _ hx, fun y hy => ?_⟩
      rcases List.mem_cons.1 hy with rfl | hy
      · exact h
      · exact hm y hy
    · refine ⟨a, by simp, fun y hy => ?_⟩
      rcases List.mem_cons.1 hy with rfl | hy
      · exact Int.le_refl _
      · refine Int.not_lt.1 (fun hlt => ?_)
        have := beat_trans hc (hl y (List.mem_cons_of_mem _ hy)) (hl a (by simp)) (hl x (List.mem_cons_of_mem _ hx)) hlt (by omega)
        have := hm y hy
        omega
theorem bestL_ne {P : Nat → Nat → Int} {n : Nat} (hc : Closed P n) (hn : 1 ≤ n) : ∃ k : Nat, k < n ∧ isBest P n k = true := by
  obtain ⟨x, hx, h⟩ := max_exists hc (List.range n) (by intro e; have := congrArg List.length e; simp at this; omega) (fun k hk => List.mem_range.1 hk)
  exact ⟨x, List.mem_range.1 hx, isBest_iff.2 (fun y hy => h y (List.mem_range.2 hy))⟩
/-- Truths for some candidates. -/
def someB (xs : List Int) (n : Nat) : List Bool := (iota n).map (fun c => decide (c ∈ xs))
theorem someB_len (xs : List Int) (n : Nat) : (someB xs n).length = n := by simp [someB, iota_len]
theorem someB_at (xs : List Int) {n k : Nat} (h : k < n) : (someB xs n).getD k false = decide ((k : Int) ∈ xs) := by
  unfold someB
  rw [List.getD_eq_getElem?_getD, List.getElem?_map, iota_at h]
  rfl
/-- A candidate preferred to each other one is the only best one. -/
theorem condorcet_col {C : Nat → Nat → Int} {w : Nat} (hC : ∀ x y, 0 ≤ C x y) {n : Nat} (h : ∀ y, y < n → y ≠ w → C y w < C w y) : ∀ o, o ≤ n → (∀ y, y < n → paths C o y w = 0)
  | 0, _, y, hy => by
    unfold paths path0
    by_cases e : y = w
    · subst e; simp
    · have := h y hy e
      rw [if_neg (by omega)]
  | o + 1, ho, y, hy => by
    have i1 := condorcet_col hC h o (by omega) y hy
    have i2 := condorcet_col hC h o (by omega) o (by omega)
    unfold paths over
    have := (paths_ok C hC o).nn y o
    split
    · rw [i1, i2]; omega
    · exact i1
theorem paths_ge {C : Nat → Nat → Int} (x y : Nat) : ∀ o, path0 C x y ≤ paths C o x y
  | 0 => Int.le_refl _
  | o + 1 => Int.le_trans (paths_ge x y o) (over_ge o _ x y)
theorem condorcet_best {C : Nat → Nat → Int} {w n : Nat} (hC : ∀ x y, 0 ≤ C x y) (hw : w < n) (h : ∀ y, y < n → y ≠ w → C y w < C w y) (k : Nat) (hk : k < n) : isBest (paths C n) n k = decide (k = w) := by
  have hcol := condorcet_col hC h n (Nat.le_refl _)
  rw [Bool.eq_iff_iff, isBest_iff, decide_eq_true_eq]
  constructor
  · intro hb
    refine Decidable.byContradiction (fun hne => ?_)
    have h1 := hb w hw
    have h2 := hcol k hk
    have h3 := paths_ge (C := C) w k n
    have h4 := h k hk hne
    have h5 := hC k w
    have h6 : path0 C w k = C w k := by unfold path0; rw [if_pos h4]
    omega
  · rintro rfl y hy
    rw [hcol y hy]
    exact (paths_ok C hC n).nn _ _
/-- The winner of pairs, by lots. -/
def pWin (C : Nat → Nat → Int) (n : Nat) (lots : List Int) : Int := firstOf lots (someB (bestL (paths C n) n) n)
theorem pWin_mem {C : Nat → Nat → Int} {n : Nat} {lots : List Int} (hp : lots.Perm (iota n)) (hC : ∀ x y, 0 ≤ C x y) (hn : 1 ≤ n) : pWin C n lots ∈ lots ∧ pWin C n lots ∈ bestL (paths C n) n := by
  obtain ⟨k, hk, hb⟩ := bestL_ne (paths_closed C hC n) hn
  have hm := firstOf_mem (lots := lots) (bs := someB (bestL (paths C n) n) n) (c := (k : Int)) (hp.mem_iff.2 (mem_iota.2 (by omega))) (by
    rw [Int.toNat_natCast, someB_at _ hk, decide_eq_true_eq]
    exact mem_bestL.2 ⟨k, rfl, hk, hb⟩)
  refine ⟨hm.1, ?_⟩
  have hr := mem_iota.1 (hp.mem_iff.1 hm.1)
  have h2 := hm.2
  rw [someB_at _ (by omega), decide_eq_true_eq] at h2
  rwa [show ((firstOf lots (someB (bestL (paths C n) n) n)).toNat : Int) = firstOf lots (someB (bestL (paths C n) n) n) from by omega] at h2
theorem pWin_condorcet {C : Nat → Nat → Int} {n w : Nat} {lots : List Int} (hp : lots.Perm (iota n)) (hC : ∀ x y, 0 ≤ C x y) (hw : w < n) (h : ∀ y, y < n → y ≠ w → C y w < C w y) : pWin C n lots = (w : Int) := by
  obtain ⟨_, h2⟩ := pWin_mem hp hC (by omega : 1 ≤ n)
  obtain ⟨k, e, hk, hb⟩ := mem_bestL.1 h2
  rw [condorcet_best hC hw h k hk, decide_eq_true_eq] at hb
  rw [e, hb]
end Go.Proofs.YtboobimpoddacaaGreatDoor
