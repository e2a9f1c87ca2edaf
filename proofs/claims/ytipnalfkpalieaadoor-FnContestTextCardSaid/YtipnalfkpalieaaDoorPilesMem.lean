/-
  Piles, batches and precincts in memory, over any program: slices of structs.
-/
import Derived.Test.YtipnalfkpalieaaDoorMem
import Derived.Test.YtipnalfkpalieaaDoorPilesLaw
import Derived.Test.YtipnalfkpalieaaDoorApp
namespace Go.Proofs.YtipnalfkpalieaaDoor
open Go.RowKit
set_option linter.unusedVariables false

/-! ### elements of several cells -/
/-- The cells of elements. -/
def cellsOf {α : Type} (f : α → List Value) (xs : List α) : List Value := xs.flatMap f
section
variable {α : Type} {f : α → List Value} {size : Nat}
theorem cellsOf_nil : cellsOf f [] = [] := rfl
theorem cellsOf_cons (x : α) (xs : List α) : cellsOf f (x :: xs) = f x ++ cellsOf f xs := by simp [cellsOf]
theorem cellsOf_append (a b : List α) : cellsOf f (a ++ b) = cellsOf f a ++ cellsOf f b := by simp [cellsOf]
theorem cellsOf_one (x : α) : cellsOf f [x] = f x := by simp [cellsOf]
theorem cellsOf_len (hf : ∀ x, (f x).length = size) (xs : List α) : (cellsOf f xs).length = xs.length * size := by
  induction xs with
  | nil => simp [cellsOf]
  | cons x xs ih => rw [cellsOf_cons, List.length_append, hf, ih, List.length_cons, Nat.succ_mul]; omega
theorem cellsOf_at (hf : ∀ x, (f x).length = size) {xs : List α} {k j : Nat} {x : α} (h : xs[k]? = some x) (hj : j < size) : (cellsOf f xs)[k * size + j]? = (f x)[j]? := by
  induction xs generalizing k with
  | nil => simp at h
  | cons y xs ih =>
    rw [cellsOf_cons]
    cases k with
    | zero =>
      simp at h
      subst h
      rw [Nat.zero_mul, Nat.zero_add, List.getElem?_append_left (by rw [hf]; exact hj)]
    | succ k =>
      have h : xs[k]? = some x := by simpa using h
      rw [List.getElem?_append_right (by rw [hf, Nat.succ_mul]; omega), hf, show (k + 1) * size + j - size = k * size + j from by rw [Nat.succ_mul]; omega]
      exact ih h
theorem cellsOf_take (hf : ∀ x, (f x).length = size) (xs : List α) (k : Nat) : (cellsOf f xs).take (k * size) = cellsOf f (xs.take k) := by
  induction xs generalizing k with
  | nil => simp [cellsOf]
  | cons x xs ih =>
    cases k with
    | zero => simp [cellsOf]
    | succ k =>
      rw [cellsOf_cons, List.take_succ_cons, cellsOf_cons, List.take_append, hf, List.take_of_length_le (by rw [hf, Nat.succ_mul]; omega), show (k + 1) * size - size = k * size from by rw [Nat.succ_mul]; omega, ih]
theorem cellsOf_drop (hf : ∀ x, (f x).length = size) (xs : List α) (k : Nat) : (cellsOf f xs).drop (k * size) = cellsOf f (xs.drop k) := by
  induction xs generalizing k with
  | nil => simp [cellsOf]
  | cons x xs ih =>
    cases k with
    | zero => simp
    | succ k =>
      rw [cellsOf_cons, List.drop_succ_cons, List.drop_append, hf, List.drop_of_length_le (by rw [hf, Nat.succ_mul]; omega), show (k + 1) * size - size = k * size from by rw [Nat.succ_mul]; omega, ih, List.nil_append]
end

/-! ### piles -/
def plCells (p : Pl) : List Value := [.string p.1, .int .i64 p.2]
theorem plCells_len (p : Pl) : (plCells p).length = 2 := rfl
def Piles (w : World) (lo : Nat) (A : Option Addr) (n cap : Nat) (ps : List Pl) : Prop := Sl w lo 2 A n cap (cellsOf plCells ps)
section
variable {w w' : World} {lo lo' n cap k : Nat} {A : Option Addr} {ps : List Pl}
theorem Piles.len (h : Piles w lo A n cap ps) : ps.length = n := by
  have := h.2.2.1
  rw [cellsOf_len plCells_len] at this
  omega
theorem Piles.at_ (h : Piles w lo A n cap ps) (hk : k < n) : ∃ b off p, A = some ⟨b, off, none⟩ ∧ lo ≤ b ∧ b < w.heap.size ∧ Hid (ps[k]? = some p) ∧ w.cell? ⟨b, off + k * 2, none⟩ = some (.string p.1) ∧ w.cell? ⟨b, off + k * 2 + 1, none⟩ = some (.int .i64 p.2) := by
  obtain ⟨b, off, rfl, hl, hb, hc⟩ := h.2.2.2 (by omega)
  have hkl : k < ps.length := by rw [h.len]; exact hk
  have hp : ps[k]? = some ps[k] := List.getElem?_eq_getElem hkl
  refine ⟨b, off, ps[k], rfl, hl, hb, Lib.hid hp, ?_, ?_⟩
  · exact hc (k * 2) _ (by have := cellsOf_at plCells_len hp (j := 0) (by omega); rw [Nat.add_zero] at this; rw [this]; rfl)
  · rw [Nat.add_assoc]
    exact hc (k * 2 + 1) _ (by rw [cellsOf_at plCells_len hp (j := 1) (by omega)]; rfl)
theorem Piles.take (h : Piles w lo A n cap ps) (hk : k ≤ n) : Piles w lo A k cap (ps.take k) := by
  refine ⟨Nat.le_trans hk h.1, h.2.1, ?_⟩
  rw [← cellsOf_take plCells_len]
  exact h.2.2.take hk
theorem Piles.drop (h : Piles w lo A n cap ps) (hk : k ≤ n) : Piles w lo (if cap = k then A else A.map (·.add (k * 2))) (n - k) (cap - k) (ps.drop k) := by
  have := h.1
  have := h.2.1
  refine ⟨by omega, by omega, ?_⟩
  rw [← cellsOf_drop plCells_len]
  exact h.2.2.cut hk h.1
theorem Piles.keep0 (h : Piles w lo A n cap ps) (hg : w.grownBy w' none) : Piles w' lo A n cap ps := Sl.keep0 h hg
theorem Piles.mono (h : Piles w lo A n cap ps) (hl : lo' ≤ lo) : Piles w lo' A n cap ps := Sl.mono h hl
theorem Piles.nil (w : World) (lo : Nat) (A : Option Addr) (cap : Nat) (hc : cap ≤ maxLen) : Piles w lo A 0 cap [] := ⟨Nat.zero_le _, hc, Rd.nil _ _ _ _⟩
end

theorem zip_take {α β : Type} (a : List α) (b : List β) (k : Nat) : (a.zip b).take k = (a.take k).zip (b.take k) := by
  induction a generalizing b k with
  | nil => simp
  | cons x a ih => cases b <;> cases k <;> simp [ih]
theorem zip_drop {α β : Type} (a : List α) (b : List β) (k : Nat) : (a.zip b).drop k = (a.drop k).zip (b.drop k) := by
  induction a generalizing b k with
  | nil => simp
  | cons x a ih => cases b <;> cases k <;> simp [ih]
/-! ### structs with piles: their own cells, then a slice of piles -/
/-- Records: f's own cells stand ahead of the slice of piles. -/
structure Rec (α : Type) where
  own : Nat
  fields : α → List Value
  piles : α → List Pl
  flen : ∀ x, (fields x).length = own
/-- Where the piles of a record lie: address and capacity. -/
abbrev Hd := Option Addr × Nat
def Rec.cells {α : Type} (R : Rec α) (x : α × Hd) : List Value := R.fields x.1 ++ [.slice x.2.1 (R.piles x.1).length x.2.2]
theorem Rec.cells_len {α : Type} (R : Rec α) (x : α × Hd) : (R.cells x).length = R.own + 1 := by simp [Rec.cells, R.flen]
/-- A slice of records that reads as a list; lo: a bound below all its blocks. -/
def Recs {α : Type} (R : Rec α) (w : World) (lo : Nat) (A : Option Addr) (n cap : Nat) (xs : List α) : Prop :=
  ∃ hs : List Hd, hs.length = xs.length ∧ Sl w lo (R.own + 1) A n cap (cellsOf R.cells (xs.zip hs)) ∧
    ∀ (k : Nat) (x : α) (h : Hd), xs[k]? = some x → hs[k]? = some h → Piles w lo h.1 (R.piles x).length h.2 (R.piles x)
section
variable {α : Type} {R : Rec α} {w w' : World} {lo lo' n cap k : Nat} {A : Option Addr} {xs : List α}
theorem Recs.len (h : Recs R w lo A n cap xs) : xs.length = n := by
  obtain ⟨hs, hl, h1, _⟩ := h
  have := h1.2.2.1
  rw [cellsOf_len R.cells_len, List.length_zip, hl, Nat.min_self] at this
  exact Nat.eq_of_mul_eq_mul_right (by omega) this
theorem Recs.le (h : Recs R w lo A n cap xs) : n ≤ cap := by obtain ⟨_, _, h1, _⟩ := h; exact h1.1
theorem Recs.max (h : Recs R w lo A n cap xs) : cap ≤ 9223372036854775807 := by obtain ⟨_, _, h1, _⟩ := h; exact Sl.max h1
theorem Recs.keep0 (h : Recs R w lo A n cap xs) (hg : w.grownBy w' none) : Recs R w' lo A n cap xs := by
  obtain ⟨hs, hl, h1, h2⟩ := h
  exact ⟨hs, hl, h1.keep0 hg, fun k x y hx hy => (h2 k x y hx hy).keep0 hg⟩
theorem Recs.mono (h : Recs R w lo A n cap xs) (hl' : lo' ≤ lo) : Recs R w lo' A n cap xs := by
  obtain ⟨hs, hl, h1, h2⟩ := h
  exact ⟨hs, hl, h1.mono hl', fun k x y hx hy => (h2 k x y hx hy).mono hl'⟩
theorem Recs.below {B : Nat} (h : Recs R w lo A n cap xs) (hb : Below B w w') (hB : w.heap.size ≤ B) : Recs R w' lo A n cap xs :=
  h.keep0 ⟨hb.os, hb.tape, hb.output, hb.size, fun k hk _ => hb.block k (by omega)⟩
theorem Recs.at_ (h : Recs R w lo A n cap xs) (hk : k < n) : ∃ b off x A' c', A = some ⟨b, off, none⟩ ∧ Hid (xs[k]? = some x) ∧ Piles w lo A' (R.piles x).length c' (R.piles x) ∧
    (∀ j u, (R.fields x)[j]? = some u → w.cell? ⟨b, off + k * (R.own + 1) + j, none⟩ = some u) ∧ w.cell? ⟨b, off + k * (R.own + 1) + R.own, none⟩ = some (.slice A' (R.piles x).length c') := by
  have hxl := h.len
  obtain ⟨hs, hl, h1, h2⟩ := h
  obtain ⟨b, off, rfl, hlo, hb, hc⟩ := h1.2.2.2 (by omega)
  have hx : xs[k]? = some xs[k] := List.getElem?_eq_getElem (by omega)
  have hh : hs[k]? = some hs[k] := List.getElem?_eq_getElem (by omega)
  have hz : (xs.zip hs)[k]? = some (xs[k], hs[k]) := by rw [List.getElem?_zip_eq_some]; exact ⟨hx, hh⟩
  refine ⟨b, off, xs[k], (hs[k]).1, (hs[k]).2, rfl, Lib.hid hx, h2 k _ _ hx hh, fun j u hu => ?_, ?_⟩
  · have hj : j < R.own := by rw [← R.flen xs[k]]; exact (List.getElem?_eq_some_iff.1 hu).1
    rw [Nat.add_assoc]
    refine hc _ u ?_
    rw [cellsOf_at R.cells_len hz (by omega), Rec.cells, List.getElem?_append_left (by rw [R.flen]; exact hj)]
    exact hu
  · rw [Nat.add_assoc]
    refine hc _ _ ?_
    rw [cellsOf_at R.cells_len hz (by omega), Rec.cells, List.getElem?_append_right (by rw [R.flen]; exact Nat.le_refl _), R.flen]
    simp
theorem Recs.nil (R : Rec α) (w : World) (lo : Nat) (A : Option Addr) (c : Nat) (hc : c ≤ maxLen) : Recs R w lo A 0 c [] := ⟨[], rfl, ⟨Nat.zero_le _, hc, Rd.nil _ _ _ _⟩, by simp⟩
theorem Recs.take (h : Recs R w lo A n cap xs) (hk : k ≤ n) : Recs R w lo A k cap (xs.take k) := by
  have hxl := h.len
  obtain ⟨hs, hl, h1, h2⟩ := h
  refine ⟨hs.take k, by simp [hl], ⟨Nat.le_trans hk h1.1, h1.2.1, ?_⟩, fun j x y hx hy => ?_⟩
  · have := h1.2.2.take hk
    rw [cellsOf_take R.cells_len, zip_take] at this
    exact this
  · rw [List.getElem?_take] at hx hy
    split at hx
    · rename_i hj
      rw [if_pos hj] at hy
      exact h2 j x y hx hy
    · cases hx
theorem Recs.drop (h : Recs R w lo A n cap xs) (hk : k ≤ n) : Recs R w lo (if cap = k then A else A.map (·.add (k * (R.own + 1)))) (n - k) (cap - k) (xs.drop k) := by
  have hxl := h.len
  obtain ⟨hs, hl, h1, h2⟩ := h
  have h11 := h1.1
  have h12 := h1.2.1
  refine ⟨hs.drop k, by simp [hl], ⟨by omega, by omega, ?_⟩, fun j x y hx hy => ?_⟩
  · have := h1.2.2.cut hk h1.1
    rw [cellsOf_drop R.cells_len, zip_drop] at this
    exact this
  · rw [List.getElem?_drop] at hx hy
    exact h2 (k + j) x y hx hy
end

/-- All texts of the piles of records are within Go's bounds. -/
def RecsWf0 {α : Type} (R : Rec α) (xs : List α) : Prop := ∀ x ∈ xs, ∀ p ∈ R.piles x, p.1.size ≤ maxLen
/-- A batch: its number, the one in whose place it stands, its piles. -/
abbrev Bt := Int × Int × List Pl
def btRec : Rec Bt := ⟨2, fun b => [.int .i64 b.1, .int .i64 b.2.1], fun b => b.2.2, fun _ => rfl⟩
abbrev Bats (w : World) (lo : Nat) (A : Option Addr) (n cap : Nat) (bs : List Bt) : Prop := Recs btRec w lo A n cap bs
theorem Bats.at_ {w : World} {lo n cap k : Nat} {A : Option Addr} {bs : List Bt} (h : Bats w lo A n cap bs) (hk : k < n) : ∃ b off id over ps A' c', A = some ⟨b, off, none⟩ ∧ Hid (bs[k]? = some (id, over, ps)) ∧ Piles w lo A' ps.length c' ps ∧
    w.cell? ⟨b, off + k * 3, none⟩ = some (.int .i64 id) ∧ w.cell? ⟨b, off + k * 3 + 1, none⟩ = some (.int .i64 over) ∧ w.cell? ⟨b, off + k * 3 + 2, none⟩ = some (.slice A' ps.length c') := by
  obtain ⟨b, off, ⟨id, over, ps⟩, A', c', e, hx, hp, hf, hs⟩ := Recs.at_ h hk
  exact ⟨b, off, id, over, ps, A', c', e, hx, hp, by have := hf 0 _ rfl; rwa [Nat.add_zero] at this, hf 1 _ rfl, hs⟩
/-- A precinct: its number, its piles. -/
abbrev Pc := Int × List Pl
def pcRec : Rec Pc := ⟨1, fun b => [.int .i64 b.1], fun b => b.2, fun _ => rfl⟩
abbrev Pcts (w : World) (lo : Nat) (A : Option Addr) (n cap : Nat) (bs : List Pc) : Prop := Recs pcRec w lo A n cap bs
theorem Pcts.at_ {w : World} {lo n cap k : Nat} {A : Option Addr} {bs : List Pc} (h : Pcts w lo A n cap bs) (hk : k < n) : ∃ b off id ps A' c', A = some ⟨b, off, none⟩ ∧ Hid (bs[k]? = some (id, ps)) ∧ Piles w lo A' ps.length c' ps ∧
    w.cell? ⟨b, off + k * 2, none⟩ = some (.int .i64 id) ∧ w.cell? ⟨b, off + k * 2 + 1, none⟩ = some (.slice A' ps.length c') := by
  obtain ⟨b, off, ⟨id, ps⟩, A', c', e, hx, hp, hf, hs⟩ := Recs.at_ h hk
  exact ⟨b, off, id, ps, A', c', e, hx, hp, by have := hf 0 _ rfl; rwa [Nat.add_zero] at this, hs⟩
end Go.Proofs.YtipnalfkpalieaaDoor
