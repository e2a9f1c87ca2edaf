/-
  Records of the call's own, over any program: their list and the piles of each lie in blocks of their own; what a call that writes them leaves as it was (Span).
-/
import Derived.Test.YtipnalfkpalieaaDoorPilesMem
namespace Go.Proofs.YtipnalfkpalieaaDoor
open Go.RowKit
set_option linter.unusedVariables false

theorem Piles.none_zero {w : World} {lo n cap : Nat} {A : Option Addr} {ps : List Pl} (h : Piles w lo A n cap ps) (e : A = none) : n = 0 := by
  rcases Nat.eq_zero_or_pos n with h0 | h0
  · exact h0
  · obtain ⟨b, off, h1, _⟩ := h.2.2.2 h0
    rw [e] at h1
    cases h1
theorem Piles.addr {w : World} {lo n cap : Nat} {A : Option Addr} {ps : List Pl} {a : Addr} (h : Piles w lo A n cap ps) (e : A = some a) : ∀ j u, (cellsOf plCells ps)[j]? = some u → w.cell? (a.add j) = some u := by
  intro j u hu
  have hjl := (List.getElem?_eq_some_iff.1 hu).1
  have hl := h.2.2.1
  have h0 : 0 < n := by
    rcases Nat.eq_zero_or_pos n with h0 | h0
    · subst h0; omega
    · exact h0
  obtain ⟨b, off, h1, _, _, hc⟩ := h.2.2.2 h0
  rw [e] at h1
  injection h1 with h1
  subst h1
  have hadd : (⟨b, off, none⟩ : Addr).add j = ⟨b, off + j, none⟩ := by
    unfold Addr.add
    split
    · simp_all
    · rfl
  rw [hadd]
  exact hc j u hu
/-- Only blocks from lo on and below hi, and new ones, are written. -/
structure Span (lo hi : Nat) (w w' : World) : Prop where
  os : w'.os = w.os
  tape : w'.tape = w.tape
  output : w'.output = w.output
  size : w.heap.size ≤ w'.heap.size
  block : ∀ i, i < w.heap.size → i < lo ∨ hi ≤ i → w'.heap[i]? = w.heap[i]?
section
variable {lo hi : Nat} {w w' w'' : World}
theorem Span.refl (lo hi : Nat) (w : World) : Span lo hi w w := ⟨rfl, rfl, rfl, Nat.le_refl _, fun _ _ _ => rfl⟩
theorem Span.trans (h : Span lo hi w w') (k : Span lo hi w' w'') : Span lo hi w w'' :=
  ⟨k.os.trans h.os, k.tape.trans h.tape, k.output.trans h.output, Nat.le_trans h.size k.size, fun i hi hl => (k.block i (Nat.lt_of_lt_of_le hi h.size) hl).trans (h.block i hi hl)⟩
theorem Span.of_gb (h : w.grownBy w' none) (lo hi : Nat) : Span lo hi w w' := ⟨h.os, h.tape, h.output, h.size, fun i hi _ => h.block i hi (by simp)⟩
theorem Span.of_row {row : Option Nat} (h : w.grownBy w' row) (hr : ∀ g, row = some g → lo ≤ g ∧ g < hi) : Span lo hi w w' :=
  ⟨h.os, h.tape, h.output, h.size, fun i hi hl => h.block i hi (fun e => by have := hr i e.symm; omega)⟩
theorem Span.below (h : Span lo hi w w') (hl : lo ≤ w.heap.size) : Below lo w w' := ⟨h.os, h.tape, h.output, h.size, fun i hil => h.block i (by omega) (.inl hil)⟩
theorem Span.mono {lo' hi' : Nat} (h : Span lo hi w w') (h1 : lo' ≤ lo) (h2 : hi ≤ hi') : Span lo' hi' w w' := ⟨h.os, h.tape, h.output, h.size, fun i hi hl => h.block i hi (by omega)⟩
theorem Span.gbz (h : Span lo hi w w') (hl : hi ≤ lo) : w.grownBy w' none := ⟨h.os, h.tape, h.output, h.size, fun i hi _ => h.block i hi (by omega)⟩
theorem Rd.span {L size n : Nat} {A : Option Addr} {xs : List Value} (h : Rd w L size A n xs) (hs : Span lo hi w w') (hl : hi ≤ L) : Rd w' L size A n xs :=
  ⟨h.1, fun hn => by
    obtain ⟨b, off, e, h1, hb, hc⟩ := h.2 hn
    refine ⟨b, off, e, h1, Nat.lt_of_lt_of_le hb hs.size, fun j u hu => ?_⟩
    rw [World.cell?_of_block (a := ⟨b, off + j, none⟩) (hs.block b hb (.inr (by omega)))]
    exact hc j u hu⟩
theorem Sl.span {L size n cap : Nat} {A : Option Addr} {xs : List Value} (h : Sl w L size A n cap xs) (hs : Span lo hi w w') (hl : hi ≤ L) : Sl w' L size A n cap xs := ⟨h.1, h.2.1, h.2.2.span hs hl⟩
theorem Recs.span {α : Type} {R : Rec α} {L n cap : Nat} {A : Option Addr} {xs : List α} (h : Recs R w L A n cap xs) (hs : Span lo hi w w') (hl : hi ≤ L) : Recs R w' L A n cap xs := by
  obtain ⟨ds, e, h1, h2⟩ := h
  exact ⟨ds, e, h1.span hs hl, fun k x y hx hy => (h2 k x y hx hy).span hs hl⟩
end

theorem own_lo {w : World} {lo lo' e size n : Nat} {v : Value} {xs : List Value} (h : w.ownsRow lo e size v n xs) (hl : lo' ≤ lo) : w.ownsRow lo' e size v n xs := by
  obtain ⟨h1, h2⟩ := h
  refine ⟨h1, ?_⟩
  rcases h2 with h2 | ⟨g, cap, cur, e1, hg, h3⟩
  · exact .inl h2
  · exact .inr ⟨g, cap, cur, e1, Nat.le_trans hl hg, h3⟩
theorem own_far {w : World} {lo e size n : Nat} {v : Value} {xs : List Value} (h : w.ownsRow lo e size v n xs) {p : Addr} {u : Value} (hne : v.ownBlock ≠ some p.block) : (w.setCell p u).ownsRow lo e size v n xs :=
  h.kept (gb_setCell (gb_refl w (some p.block)) (.inl rfl) u) (.inr hne)
/-- Blocks that differ, where there are any. -/
def Apart (l : List (Option Nat)) : Prop := l.Pairwise fun a b => a = none ∨ a ≠ b
theorem apart_at {l : List (Option Nat)} (h : Apart l) {i j : Nat} {a b : Option Nat} (hi : l[i]? = some a) (hj : l[j]? = some b) (hij : i ≠ j) : a = none ∨ a ≠ b := by
  unfold Apart at h
  rw [List.pairwise_iff_getElem] at h
  obtain ⟨hi1, rfl⟩ := List.getElem?_eq_some_iff.1 hi
  obtain ⟨hj1, rfl⟩ := List.getElem?_eq_some_iff.1 hj
  rcases Nat.lt_or_gt_of_ne hij with hlt | hlt
  · exact h i j hi1 hj1 hlt
  · rcases h j i hj1 hi1 hlt with h1 | h1
    · cases ha : l[i] with
      | none => exact .inl rfl
      | some g => rw [h1]; exact .inr (by simp)
    · exact .inr fun e => h1 e.symm
theorem apart_push {l : List (Option Nat)} (h : Apart l) {b : Option Nat} (hb : ∀ a ∈ l, a = none ∨ a ≠ b) : Apart (l ++ [b]) := by
  unfold Apart at *
  rw [List.pairwise_append]
  exact ⟨h, by simp, fun a ha c hc => by rw [List.mem_singleton.1 hc]; exact hb a ha⟩

def hdBlk (h : Hd) : Option Nat := (Value.slice h.1 0 h.2).ownBlock
theorem ownBlock_any (A : Option Addr) (n m c d : Nat) : (Value.slice A n c).ownBlock = (Value.slice A m d).ownBlock := by cases A <;> rfl
/-- Records of the call's own: their list at A, their piles at hs; all blocks lie from lo on, below hi, apart. -/
structure OwnRecs {α : Type} (R : Rec α) (pt t : TypeId) (w : World) (lo hi : Nat) (A : Option Addr) (n cap : Nat) (xs : List α) (hs : List Hd) : Prop where
  len : hs.length = xs.length
  row : w.ownsRow lo t (R.own + 1) (.slice A n cap) n (cellsOf R.cells (xs.zip hs))
  piles : ∀ (k : Nat) (x : α) (h : Hd), xs[k]? = some x → hs[k]? = some h → w.ownsRow lo pt 2 (.slice h.1 (R.piles x).length h.2) (R.piles x).length (cellsOf plCells (R.piles x))
  apart : Apart ((Value.slice A n cap).ownBlock :: hs.map hdBlk)
  bnd : ∀ g, some g ∈ (Value.slice A n cap).ownBlock :: hs.map hdBlk → g < hi
section
variable {α : Type} {R : Rec α} {pt t : TypeId} {w w' : World} {lo hi n cap k : Nat} {A : Option Addr} {xs : List α} {hs : List Hd}
theorem OwnRecs.xlen (h : OwnRecs R pt t w lo hi A n cap xs hs) : xs.length = n := by
  have := h.row.1
  rw [cellsOf_len R.cells_len, List.length_zip, h.len, Nat.min_self] at this
  exact Nat.eq_of_mul_eq_mul_right (by omega) this
theorem OwnRecs.recs (h : OwnRecs R pt t w lo hi A n cap xs hs) : Recs R w lo A n cap xs :=
  ⟨hs, h.len, Sl.own h.row, fun k x y hx hy => Sl.own (h.piles k x y hx hy)⟩
theorem OwnRecs.keep (h : OwnRecs R pt t w lo hi A n cap xs hs) (hg : w.grownBy w' none) : OwnRecs R pt t w' lo hi A n cap xs hs :=
  ⟨h.len, own_below h.row hg, fun k x y hx hy => own_below (h.piles k x y hx hy) hg, h.apart, h.bnd⟩
theorem own_span {e : TypeId} {size m : Nat} {v : Value} {us : List Value} {L H : Nat} (h : w.ownsRow L e size v m us) (hs : Span lo hi w w') (hl : hi ≤ L ∨ ∀ g, v.ownBlock = some g → g < lo) : w'.ownsRow L e size v m us := by
  obtain ⟨h1, h2⟩ := h
  refine ⟨h1, ?_⟩
  rcases h2 with h2 | ⟨g, cap, cur, rfl, hg, hh, h3⟩
  · exact .inl h2
  · refine .inr ⟨g, cap, cur, rfl, hg, ?_, h3⟩
    rw [hs.block g (Blk.lt hh) (by rcases hl with hl | hl; exact .inr (by omega); exact .inl (hl g rfl))]
    exact hh
theorem OwnRecs.span {L H : Nat} (h : OwnRecs R pt t w L H A n cap xs hs) (hsp : Span lo hi w w') (hl : hi ≤ L) : OwnRecs R pt t w' L H A n cap xs hs :=
  ⟨h.len, own_span (H := H) h.row hsp (.inl hl), fun k x y hx hy => own_span (H := H) (h.piles k x y hx hy) hsp (.inl hl), h.apart, h.bnd⟩

theorem cellsOf_set {β : Type} {f : β → List Value} {size : Nat} (hf : ∀ x, (f x).length = size) {ys : List β} {k j : Nat} {y y' : β} {u : Value} (hk : ys[k]? = some y) (hj : j < size) (hy : f y' = (f y).set j u) :
    cellsOf f (ys.set k y') = (cellsOf f ys).set (k * size + j) u := by
  induction ys generalizing k with
  | nil => simp at hk
  | cons z ys ih =>
    cases k with
    | zero =>
      simp at hk
      subst hk
      rw [List.set_cons_zero, cellsOf_cons, cellsOf_cons, hy, Nat.zero_mul, Nat.zero_add, List.set_append_left _ _ (by rw [hf]; exact hj)]
    | succ k =>
      have hk : ys[k]? = some y := by simpa using hk
      rw [List.set_cons_succ, cellsOf_cons, cellsOf_cons, ih hk, List.set_append_right _ _ (by rw [hf, Nat.succ_mul]; omega), hf, show (k + 1) * size + j - size = k * size + j from by rw [Nat.succ_mul]; omega]
theorem cellsOf_keep {β : Type} {f : β → List Value} {ys : List β} {k : Nat} {y y' : β} (hk : ys[k]? = some y) (hy : f y' = f y) : cellsOf f (ys.set k y') = cellsOf f ys := by
  induction ys generalizing k with
  | nil => simp at hk
  | cons z ys ih =>
    cases k with
    | zero => simp at hk; subst hk; rw [List.set_cons_zero, cellsOf_cons, cellsOf_cons, hy]
    | succ k => rw [List.set_cons_succ, cellsOf_cons, cellsOf_cons, ih (by simpa using hk)]
theorem zip_set {β γ : Type} (a : List β) (b : List γ) (k : Nat) (x : β) (y : γ) (hy : b[k]? = some y) : (a.set k x).zip b = (a.zip b).set k (x, y) := by
  induction a generalizing b k with
  | nil => simp
  | cons z a ih =>
    cases b with
    | nil => simp at hy
    | cons c b =>
      cases k with
      | zero => simp at hy; subst hy; simp
      | succ k => simp [ih b k (by simpa using hy)]

theorem OwnRecs.cell (h : OwnRecs R pt t w lo hi A n cap xs hs) {g j : Nat} (hA : A = some ⟨g, 0, none⟩) {x : α} {d : Hd} (hx : xs[k]? = some x) (hd : hs[k]? = some d) (hj : j < R.own + 1) : w.cell? ⟨g, k * (R.own + 1) + j, none⟩ = (R.cells (x, d))[j]? := by
  subst hA
  have hkn : k < n := by rw [← h.xlen]; exact (List.getElem?_eq_some_iff.1 hx).1
  have hz : (xs.zip hs)[k]? = some (x, d) := by rw [List.getElem?_zip_eq_some]; exact ⟨hx, hd⟩
  rw [h.row.cellAt _ (by
    have : (k + 1) * (R.own + 1) ≤ n * (R.own + 1) := Nat.mul_le_mul_right _ hkn
    rw [Nat.succ_mul] at this
    omega)]
  exact cellsOf_at R.cells_len hz hj
/-- A store into a record's own cell. -/
theorem OwnRecs.setField (h : OwnRecs R pt t w lo hi A n cap xs hs) {g j : Nat} (hA : A = some ⟨g, 0, none⟩) {x x' : α} {u : Value} (hx : xs[k]? = some x) (hj : j < R.own) (hf : R.fields x' = (R.fields x).set j u) (hp : R.piles x' = R.piles x) :
    OwnRecs R pt t (w.setCell ⟨g, k * (R.own + 1) + j, none⟩ u) lo hi A n cap (xs.set k x') hs ∧ Span lo hi w (w.setCell ⟨g, k * (R.own + 1) + j, none⟩ u) := by
  subst hA
  obtain ⟨hst, hgs⟩ := h.row.stored (k * (R.own + 1) + j) u
  have hkx : k < xs.length := (List.getElem?_eq_some_iff.1 hx).1
  have hkh : k < hs.length := by rw [h.len]; exact hkx
  have hh : hs[k]? = some hs[k] := List.getElem?_eq_getElem hkh
  have hz : (xs.zip hs)[k]? = some (x, hs[k]) := by rw [List.getElem?_zip_eq_some]; exact ⟨hx, hh⟩
  have hg : g < hi := h.bnd g (by simp [Value.ownBlock])
  have hlo : lo ≤ g := (h.row.lt g rfl).1
  refine ⟨⟨by simp [h.len], ?_, fun i y d hy hd => ?_, h.apart, h.bnd⟩, Span.of_row hgs (fun b hb => by injection hb with hb; omega)⟩
  · rw [zip_set _ _ _ _ _ hh, cellsOf_set (j := j) (u := u) R.cells_len hz (by omega) (by
      show R.fields x' ++ _ = (R.fields x ++ _).set j u
      rw [List.set_append_left _ _ (by rw [R.flen]; exact hj), hf, hp])]
    exact hst
  · have hold : ∃ y0, xs[i]? = some y0 ∧ R.piles y = R.piles y0 := by
      by_cases hik : i = k
      · subst hik
        rw [List.getElem?_set_self hkx] at hy
        injection hy with hy
        subst hy
        exact ⟨x, hx, hp⟩
      · rw [List.getElem?_set_ne (fun e => hik e.symm)] at hy
        exact ⟨y, hy, rfl⟩
    obtain ⟨y0, hy0, e⟩ := hold
    rw [e]
    refine (h.piles i y0 d hy0 hd).kept hgs ?_
    have := apart_at h.apart (i := i + 1) (j := 0) (a := hdBlk d) (by simp [hd]) rfl (by omega)
    rwa [hdBlk, ownBlock_any d.1 0 (R.piles y0).length d.2 d.2] at this
/-- The piles of a record, written. -/
theorem OwnRecs.setPiles (h : OwnRecs R pt t w lo hi A n cap xs hs) {x x' : α} {d : Hd} (hx : xs[k]? = some x) (hd : hs[k]? = some d) (hf : R.fields x' = R.fields x) (hl : (R.piles x').length = (R.piles x).length)
    (hg : w.grownBy w' (Value.slice d.1 (R.piles x).length d.2).ownBlock) (hp : w'.ownsRow lo pt 2 (.slice d.1 (R.piles x).length d.2) (R.piles x).length (cellsOf plCells (R.piles x'))) :
    OwnRecs R pt t w' lo hi A n cap (xs.set k x') hs ∧ Span lo hi w w' := by
  have hkx : k < xs.length := (List.getElem?_eq_some_iff.1 hx).1
  have hz : (xs.zip hs)[k]? = some (x, d) := by rw [List.getElem?_zip_eq_some]; exact ⟨hx, hd⟩
  have hdb : (Value.slice d.1 (R.piles x).length d.2).ownBlock = hdBlk d := ownBlock_any _ _ _ _ _
  have hmem : hdBlk d ∈ (Value.slice A n cap).ownBlock :: hs.map hdBlk := List.mem_cons_of_mem _ (List.mem_map.2 ⟨d, List.mem_of_getElem? hd, rfl⟩)
  refine ⟨⟨by simp [h.len], ?_, fun i y e hy he => ?_, h.apart, h.bnd⟩, Span.of_row hg (fun b hb => ⟨((h.piles k x d hx hd).lt b hb).1, h.bnd b (by rw [hdb] at hb; rw [← hb]; exact hmem)⟩)⟩
  · rw [zip_set _ _ _ _ _ hd, cellsOf_keep hz (by show R.fields x' ++ _ = R.fields x ++ _; rw [hf, hl])]
    refine h.row.kept hg ?_
    rw [hdb]
    exact apart_at h.apart (i := 0) (j := k + 1) rfl (by simp [hd]) (by omega)
  · by_cases hik : i = k
    · subst hik
      rw [List.getElem?_set_self hkx] at hy
      injection hy with hy
      subst hy
      rw [hd] at he
      injection he with he
      subst he
      rw [hl]
      exact hp
    · rw [List.getElem?_set_ne (fun e => hik e.symm)] at hy
      refine (h.piles i y e hy he).kept hg ?_
      rw [hdb, ownBlock_any e.1 (R.piles y).length 0 e.2 e.2]
      exact apart_at h.apart (i := i + 1) (j := k + 1) (a := hdBlk e) (b := hdBlk d) (by simp [he]) (by simp [hd]) (by omega)
end
/-- The first k records are made. -/
structure MadeTo {α : Type} (R : Rec α) (pt t : TypeId) (w0 w : World) (B : Nat) (k n : Nat) (xs : List α) (cs : Array Value) (hs : List Hd) : Prop where
  len : hs.length = k
  blk : Blk w B t cs
  size : cs.size = n * (R.own + 1)
  pre : ∀ j, j < k * (R.own + 1) → cs[j]? = (cellsOf R.cells (xs.zip hs))[j]?
  piles : ∀ (i : Nat) (x : α) (h : Hd), xs[i]? = some x → hs[i]? = some h → w.ownsRow w0.heap.size pt 2 (.slice h.1 (R.piles x).length h.2) (R.piles x).length (cellsOf plCells (R.piles x))
  apart : Apart (some B :: hs.map hdBlk)
  bnd : ∀ g, some g ∈ some B :: hs.map hdBlk → w0.heap.size ≤ g ∧ g < w.heap.size
theorem MadeTo.start {α : Type} (R : Rec α) (pt t : TypeId) (w0 w : World) (n : Nat) (xs : List α) (cs : Array Value) (hB : Blk w w0.heap.size t cs) (hs : cs.size = n * (R.own + 1)) : MadeTo R pt t w0 w w0.heap.size 0 n xs cs [] :=
  ⟨rfl, hB, hs, fun j hj => absurd hj (by omega), fun i x h _ hh => by simp at hh, by simp [Apart], fun g hg => by
    have := hB.lt
    simp at hg
    omega⟩
theorem zip_push {α β : Type} {xs : List α} {hs : List β} {k : Nat} {x : α} (h : β) (hx : xs[k]? = some x) (hl : hs.length = k) : xs.zip (hs ++ [h]) = xs.zip hs ++ [(x, h)] := by
  induction xs generalizing hs k with
  | nil => simp at hx
  | cons y xs ih =>
    cases hs with
    | nil => simp at hl; subst hl; simp at hx; subst hx; simp
    | cons d hs =>
      cases k with
      | zero => simp at hl
      | succ k => simp [ih (by simpa using hx) (by simpa using hl)]
theorem zip_len {α β : Type} {xs : List α} {hs : List β} {k : Nat} (hl : hs.length = k) (hx : k ≤ xs.length) : (xs.zip hs).length = k := by rw [List.length_zip, hl]; omega
theorem MadeTo.step {α : Type} {R : Rec α} {pt t : TypeId} {w0 w w1 w2 : World} {B k n L : Nat} {xs : List α} {cs cs' : Array Value} {hs : List Hd} {x : α} {h : Hd} (hM : MadeTo R pt t w0 w B k n xs cs hs) (hx : xs[k]? = some x)
    (hg : w.grownBy w1 none) (ho : w1.ownsRow L pt 2 (.slice h.1 (R.piles x).length h.2) (R.piles x).length (cellsOf plCells (R.piles x))) (hL : ∀ g, hdBlk h = some g → w.heap.size ≤ g)
    (hb : Blk w2 B t cs') (hg2 : w1.grownBy w2 (some B)) (hs' : cs'.size = cs.size) (h1 : ∀ j, j < k * (R.own + 1) → cs'[j]? = cs[j]?) (h2 : ∀ j, j < R.own + 1 → cs'[k * (R.own + 1) + j]? = (R.cells (x, h))[j]?) :
    MadeTo R pt t w0 w2 B (k + 1) n xs cs' (hs ++ [h]) := by
  have hkx : k < xs.length := (List.getElem?_eq_some_iff.1 hx).1
  have hzl := zip_len (xs := xs) hM.len (Nat.le_of_lt hkx)
  have hBl := hM.bnd B (by simp)
  have hdb : (Value.slice h.1 (R.piles x).length h.2).ownBlock = hdBlk h := ownBlock_any _ _ _ _ _
  have hnew : ∀ g, hdBlk h = some g → w.heap.size ≤ g ∧ g < w1.heap.size := fun g e => ⟨hL g e, (ho.lt g (by rw [hdb]; exact e)).2⟩
  have hold : ∀ a ∈ some B :: hs.map hdBlk, a = none ∨ a ≠ hdBlk h := by
    intro a ha
    cases a with
    | none => exact .inl rfl
    | some g =>
      refine .inr fun e => ?_
      have := (hM.bnd g ha).2
      have := (hnew g e.symm).1
      omega
  refine ⟨by simp [hM.len], hb, by rw [hs']; exact hM.size, fun j hj => ?_, fun i y d hy hd => ?_, ?_, fun g hgm => ?_⟩
  · rw [zip_push h hx hM.len, cellsOf_append]
    have hcl : (cellsOf R.cells (xs.zip hs)).length = k * (R.own + 1) := by rw [cellsOf_len R.cells_len, hzl]
    by_cases hjk : j < k * (R.own + 1)
    · rw [List.getElem?_append_left (by rw [hcl]; exact hjk), h1 j hjk]
      exact hM.pre j hjk
    · rw [List.getElem?_append_right (by rw [hcl]; omega), hcl, cellsOf_one]
      have := h2 (j - k * (R.own + 1)) (by rw [Nat.succ_mul] at hj; omega)
      rwa [show k * (R.own + 1) + (j - k * (R.own + 1)) = j from by omega] at this
  · by_cases hi : i < k
    · rw [List.getElem?_append_left (by rw [hM.len]; exact hi)] at hd
      refine (own_below (hM.piles i y d hy hd) hg).kept hg2 ?_
      have := apart_at hM.apart (i := i + 1) (j := 0) (a := hdBlk d) (by simp [hd]) rfl (by omega)
      rwa [hdBlk, ownBlock_any d.1 0 (R.piles y).length d.2 d.2] at this
    · rw [List.getElem?_append_right (by rw [hM.len]; omega), hM.len] at hd
      have hik : i - k = 0 := by
        have := (List.getElem?_eq_some_iff.1 hd).1
        simpa using this
      rw [hik] at hd
      obtain rfl : i = k := by omega
      injection hd with hd
      subst hd
      rw [hx] at hy
      injection hy with hy
      subst hy
      obtain ⟨q1, q2⟩ := ho
      have ho' : w1.ownsRow w0.heap.size pt 2 (.slice h.1 (R.piles x).length h.2) (R.piles x).length (cellsOf plCells (R.piles x)) := by
        refine ⟨q1, ?_⟩
        rcases q2 with q2 | ⟨g, c, cur, e1, hg', q3⟩
        · exact .inl q2
        · refine .inr ⟨g, c, cur, e1, ?_, q3⟩
          have := hL g (by rw [← hdb, e1]; rfl)
          omega
      refine ho'.kept hg2 ?_
      rw [hdb]
      cases hh : hdBlk h with
      | none => exact .inl rfl
      | some g =>
        refine .inr fun e => ?_
        injection e with e
        have := (hnew g hh).1
        omega
  · rw [List.map_append, ← List.cons_append]
    exact apart_push hM.apart hold
  · rw [List.map_append, ← List.cons_append, List.mem_append] at hgm
    have hs1 := hg.size
    have hs2 := hg2.size
    rcases hgm with hgm | hgm
    · have := hM.bnd g hgm
      omega
    · simp at hgm
      have := hnew g hgm.symm
      omega
theorem MadeTo.done {α : Type} {R : Rec α} {pt t : TypeId} {w0 w : World} {B n : Nat} {xs : List α} {cs : Array Value} {hs : List Hd} (hM : MadeTo R pt t w0 w B n n xs cs hs) (hx : xs.length = n) (hB : w0.heap.size ≤ B) (hn : n ≤ 100000000) :
    OwnRecs R pt t w w0.heap.size w.heap.size (some ⟨B, 0, none⟩) n n xs hs := by
  have he : cs.toList = cellsOf R.cells (xs.zip hs) := by
    have hl : (cellsOf R.cells (xs.zip hs)).length = n * (R.own + 1) := by rw [cellsOf_len R.cells_len, zip_len hM.len (by omega)]
    apply List.ext_getElem?
    intro j
    by_cases hj : j < n * (R.own + 1)
    · rw [Array.getElem?_toList]
      exact hM.pre j hj
    · rw [List.getElem?_eq_none (by simp; rw [hM.size]; omega), List.getElem?_eq_none (by rw [hl]; omega)]
  have hown := own_of_blk (lo := w0.heap.size) (size := R.own + 1) (n := n) hM.blk hM.size hn hB
  rw [he] at hown
  exact ⟨by rw [hM.len, hx], hown, hM.piles, hM.apart, fun g hg => (hM.bnd g hg).2⟩
theorem MadeTo.stepBt {pt t : TypeId} {w0 w w1 : World} {B k n L N g : Nat} {bs : List Bt} {cs : Array Value} {hs : List Hd} {id over : Int} {ps : List Pl} (hM : MadeTo btRec pt t w0 w B k n bs cs hs) (hx : bs[k]? = some (id, over, ps)) (hk : k < n) (hN : ps.length = N)
    (hg : w.grownBy w1 none) (ho : w1.ownsRow L pt 2 (.slice (some ⟨g, 0, none⟩) N N) N (cellsOf plCells ps)) (hgl : w.heap.size ≤ g) :
    MadeTo btRec pt t w0 (((w1.setCell ⟨B, k * 3, none⟩ (.int .i64 id)).setCell ⟨B, k * 3 + 1, none⟩ (.int .i64 over)).setCell ⟨B, k * 3 + 2, none⟩ (.slice (some ⟨g, 0, none⟩) N N)) B (k + 1) n bs
      (((cs.setIfInBounds (k * 3) (.int .i64 id)).setIfInBounds (k * 3 + 1) (.int .i64 over)).setIfInBounds (k * 3 + 2) (.slice (some ⟨g, 0, none⟩) N N)) (hs ++ [(some ⟨g, 0, none⟩, N)]) := by
  subst hN
  have hb1 := hM.blk.grown hg (by simp)
  have hsz : cs.size = n * 3 := hM.size
  have hL : ∀ b, hdBlk (some ⟨g, 0, none⟩, ps.length) = some b → w.heap.size ≤ b := by
    intro b e
    have e : some g = some b := e
    injection e with e
    omega
  have hB2 := ((hb1.set_ (k * 3) (.int .i64 id)).set_ (k * 3 + 1) (.int .i64 over)).set_ (k * 3 + 2) (.slice (some ⟨g, 0, none⟩) ps.length ps.length)
  have hG2 : w1.grownBy (((w1.setCell ⟨B, k * 3, none⟩ (.int .i64 id)).setCell ⟨B, k * 3 + 1, none⟩ (.int .i64 over)).setCell ⟨B, k * 3 + 2, none⟩ (.slice (some ⟨g, 0, none⟩) ps.length ps.length)) (some B) := by
    refine gb_setCell ?_ (.inl rfl) _
    refine gb_setCell ?_ (.inl rfl) _
    exact gb_setCell (gb_refl _ _) (.inl rfl) _
  refine hM.step (x := (id, over, ps)) (h := (some ⟨g, 0, none⟩, ps.length)) hx hg ho hL hB2 hG2 (by simp only [Array.size_setIfInBounds]) (fun j hj => ?_) (fun j hj => ?_)
  · have hj : j < k * 3 := hj
    rw [Array.getElem?_setIfInBounds_ne (by omega), Array.getElem?_setIfInBounds_ne (by omega), Array.getElem?_setIfInBounds_ne (by omega)]
  · have hj : j < 3 := hj
    show (_ : Array Value)[k * 3 + j]? = [Value.int .i64 id, .int .i64 over, .slice (some ⟨g, 0, none⟩) ps.length ps.length][j]?
    rcases (by omega : j = 0 ∨ j = 1 ∨ j = 2) with rfl | rfl | rfl
    · rw [show k * 3 + 0 = k * 3 from rfl, Array.getElem?_setIfInBounds_ne (by omega), Array.getElem?_setIfInBounds_ne (by omega), Array.getElem?_setIfInBounds_self_of_lt (by rw [hsz]; omega)]; rfl
    · rw [Array.getElem?_setIfInBounds_ne (by omega), Array.getElem?_setIfInBounds_self_of_lt (by rw [Array.size_setIfInBounds, hsz]; omega)]; rfl
    · rw [Array.getElem?_setIfInBounds_self_of_lt (by rw [Array.size_setIfInBounds, Array.size_setIfInBounds, hsz]; omega)]; rfl
theorem MadeTo.stepPc {pt t : TypeId} {w0 w w1 : World} {B k n L N g : Nat} {bs : List Pc} {cs : Array Value} {hs : List Hd} {id : Int} {ps : List Pl} (hM : MadeTo pcRec pt t w0 w B k n bs cs hs) (hx : bs[k]? = some (id, ps)) (hk : k < n) (hN : ps.length = N)
    (hg : w.grownBy w1 none) (ho : w1.ownsRow L pt 2 (.slice (some ⟨g, 0, none⟩) N N) N (cellsOf plCells ps)) (hgl : w.heap.size ≤ g) :
    MadeTo pcRec pt t w0 ((w1.setCell ⟨B, k * 2, none⟩ (.int .i64 id)).setCell ⟨B, k * 2 + 1, none⟩ (.slice (some ⟨g, 0, none⟩) N N)) B (k + 1) n bs
      ((cs.setIfInBounds (k * 2) (.int .i64 id)).setIfInBounds (k * 2 + 1) (.slice (some ⟨g, 0, none⟩) N N)) (hs ++ [(some ⟨g, 0, none⟩, N)]) := by
  subst hN
  have hb1 := hM.blk.grown hg (by simp)
  have hsz : cs.size = n * 2 := hM.size
  have hL : ∀ b, hdBlk (some ⟨g, 0, none⟩, ps.length) = some b → w.heap.size ≤ b := by
    intro b e
    have e : some g = some b := e
    injection e with e
    omega
  have hB2 := (hb1.set_ (k * 2) (.int .i64 id)).set_ (k * 2 + 1) (.slice (some ⟨g, 0, none⟩) ps.length ps.length)
  have hG2 : w1.grownBy ((w1.setCell ⟨B, k * 2, none⟩ (.int .i64 id)).setCell ⟨B, k * 2 + 1, none⟩ (.slice (some ⟨g, 0, none⟩) ps.length ps.length)) (some B) := by
    refine gb_setCell ?_ (.inl rfl) _
    exact gb_setCell (gb_refl _ _) (.inl rfl) _
  refine hM.step (x := (id, ps)) (h := (some ⟨g, 0, none⟩, ps.length)) hx hg ho hL hB2 hG2 (by simp only [Array.size_setIfInBounds]) (fun j hj => ?_) (fun j hj => ?_)
  · have hj : j < k * 2 := hj
    rw [Array.getElem?_setIfInBounds_ne (by omega), Array.getElem?_setIfInBounds_ne (by omega)]
  · have hj : j < 2 := hj
    show (_ : Array Value)[k * 2 + j]? = [Value.int .i64 id, .slice (some ⟨g, 0, none⟩) ps.length ps.length][j]?
    rcases (by omega : j = 0 ∨ j = 1) with rfl | rfl
    · rw [show k * 2 + 0 = k * 2 from rfl, Array.getElem?_setIfInBounds_ne (by omega), Array.getElem?_setIfInBounds_self_of_lt (by rw [hsz]; omega)]; rfl
    · rw [Array.getElem?_setIfInBounds_self_of_lt (by rw [Array.size_setIfInBounds, hsz]; omega)]; rfl

/-- A list of the call's own whose records' piles lie anywhere from lo on, but not in the list's block. -/
structure ListRecs {α : Type} (R : Rec α) (t : TypeId) (w : World) (lo L : Nat) (A : Option Addr) (n cap : Nat) (xs : List α) (hs : List Hd) : Prop where
  len : hs.length = xs.length
  row : w.ownsRow L t (R.own + 1) (.slice A n cap) n (cellsOf R.cells (xs.zip hs))
  piles : ∀ (k : Nat) (x : α) (h : Hd), xs[k]? = some x → hs[k]? = some h → Piles w lo h.1 (R.piles x).length h.2 (R.piles x)
  apart : ∀ (k : Nat) (x : α) (h : Hd), xs[k]? = some x → hs[k]? = some h → 0 < (R.piles x).length → ∀ b, h.1 = some b → (Value.slice A n cap).ownBlock ≠ some b.block
section
variable {α : Type} {R : Rec α} {t : TypeId} {w w' : World} {lo L n cap : Nat} {A : Option Addr} {xs : List α} {hs : List Hd}
theorem ListRecs.nil (R : Rec α) (t : TypeId) (w : World) (lo L : Nat) : ListRecs R t w lo L none 0 0 [] [] := ⟨rfl, own_nil _ _ _ _, fun k x h hx => by simp at hx, fun k x h hx => by simp at hx⟩
theorem ListRecs.empty (R : Rec α) (t : TypeId) (w : World) (lo L : Nat) (hL : L ≤ w.heap.size) : ListRecs R t (w.alloc (.cells #[] t)) lo L (some ⟨w.heap.size, 0, none⟩) 0 0 [] [] := ⟨rfl, own_empty _ _ _ _ hL, fun k x h hx => by simp at hx, fun k x h hx => by simp at hx⟩
theorem ListRecs.keep (h : ListRecs R t w lo L A n cap xs hs) (hg : w.grownBy w' none) : ListRecs R t w' lo L A n cap xs hs :=
  ⟨h.len, own_below h.row hg, fun k x d hx hd => (h.piles k x d hx hd).keep0 hg, h.apart⟩
theorem ListRecs.xlen (h : ListRecs R t w lo L A n cap xs hs) : xs.length = n := by
  have := h.row.1
  rw [cellsOf_len R.cells_len, List.length_zip, h.len, Nat.min_self] at this
  exact Nat.eq_of_mul_eq_mul_right (by omega) this
theorem ListRecs.recs (h : ListRecs R t w lo L A n cap xs hs) (hl : lo ≤ L) : Recs R w lo A n cap xs := ⟨hs, h.len, (Sl.own h.row).mono hl, h.piles⟩
theorem snoc_at {β : Type} {l : List β} {x y : β} {k : Nat} (h : (l ++ [x])[k]? = some y) : (k < l.length ∧ l[k]? = some y) ∨ (k = l.length ∧ y = x) := by
  by_cases hk : k < l.length
  · rw [List.getElem?_append_left hk] at h
    exact .inl ⟨hk, h⟩
  · rw [List.getElem?_append_right (by omega)] at h
    have h0 : k - l.length = 0 := by
      have := (List.getElem?_eq_some_iff.1 h).1
      simpa using this
    rw [h0] at h
    injection h with h
    exact .inr ⟨by omega, h.symm⟩
/-- One more record: what an append leaves. -/
theorem ListRecs.push (h : ListRecs R t w lo L A n cap xs hs) {w' : World} {A' : Option Addr} {c' : Nat} {x : α} {d : Hd} (hown : w'.ownsRow L t (R.own + 1) (.slice A' (n + 1) c') (n + 1) (cellsOf R.cells (xs.zip hs) ++ R.cells (x, d)))
    (hg : w.grownBy w' (Value.slice A n cap).ownBlock) (hat : (Value.slice A' (n + 1) c').ownBlock = (Value.slice A n cap).ownBlock ∨ ∃ g, (Value.slice A' (n + 1) c').ownBlock = some g ∧ w.heap.size ≤ g)
    (hp : Piles w lo d.1 (R.piles x).length d.2 (R.piles x)) (hd : 0 < (R.piles x).length → ∀ b, d.1 = some b → (Value.slice A n cap).ownBlock ≠ some b.block) :
    ListRecs R t w' lo L A' (n + 1) c' (xs ++ [x]) (hs ++ [d]) := by
  have hold : ∀ (k : Nat) (y : α) (e : Hd), (xs ++ [x])[k]? = some y → (hs ++ [d])[k]? = some e → Piles w lo e.1 (R.piles y).length e.2 (R.piles y) ∧ (0 < (R.piles y).length → ∀ b, e.1 = some b → (Value.slice A n cap).ownBlock ≠ some b.block) := by
    intro k y e hy he
    rcases snoc_at hy with ⟨h1, h2⟩ | ⟨h1, h2⟩
    · rcases snoc_at he with ⟨h3, h4⟩ | ⟨h3, h4⟩
      · exact ⟨h.piles k y e h2 h4, h.apart k y e h2 h4⟩
      · rw [h.len] at h3; omega
    · rcases snoc_at he with ⟨h3, h4⟩ | ⟨h3, h4⟩
      · rw [h.len] at h3; omega
      · subst h2 h4
        exact ⟨hp, hd⟩
  refine ⟨by simp [h.len], ?_, fun k y e hy he => ?_, fun k y e hy he hn b hb => ?_⟩
  · rw [List.zip_append h.len.symm, cellsOf_append]
    simpa [cellsOf] using hown
  · obtain ⟨o1, o2⟩ := hold k y e hy he
    refine ⟨o1.1, o1.2.1, o1.2.2.1, fun hn => ?_⟩
    obtain ⟨b, off, e1, hl, hb, hc⟩ := o1.2.2.2 hn
    exact ⟨b, off, e1, hl, Nat.lt_of_lt_of_le hb hg.size, fun j u hu => gb_cell hg (hc j u hu) (fun e2 => o2 hn _ e1 e2.symm)⟩
  · obtain ⟨o1, o2⟩ := hold k y e hy he
    rcases hat with h1 | ⟨g, h1, h2⟩
    · rw [h1]; exact o2 hn b hb
    · rw [h1]
      obtain ⟨b', off, e1, _, hb', _⟩ := o1.2.2.2 hn
      rw [hb] at e1
      injection e1 with e1
      subst e1
      intro e2
      injection e2 with e2
      have : b' < w.heap.size := hb'
      have e2 : g = b' := e2
      omega
/-- Piles that lie below the list's block. -/
theorem apart_below {L' : Nat} {xs' : List Value} {v : Value} {d : Hd} {ps : List Pl} {w0 : World} (h : w.ownsRow L t (R.own + 1) v n xs') (hp : Piles w0 lo d.1 ps.length d.2 ps) (hL : w0.heap.size ≤ L) : 0 < ps.length → ∀ b, d.1 = some b → v.ownBlock ≠ some b.block := by
  intro hn b hb e
  obtain ⟨b', off, e1, _, hb', _⟩ := hp.2.2.2 hn
  rw [hb] at e1
  injection e1 with e1
  subst e1
  have h1 := (h.lt _ e).1
  have h2 : b' < w0.heap.size := hb'
  have h3 : L ≤ b' := h1
  omega
/-- Piles that lie above the list's block. -/
theorem apart_above {L' : Nat} {xs' : List Value} {v : Value} {d : Hd} {ps : List Pl} {w0 : World} (h : w.ownsRow L t (R.own + 1) v n xs') (hp : Piles w0 L' d.1 ps.length d.2 ps) (hL : w.heap.size ≤ L') : 0 < ps.length → ∀ b, d.1 = some b → v.ownBlock ≠ some b.block := by
  intro hn b hb e
  obtain ⟨b', off, e1, hl, _, _⟩ := hp.2.2.2 hn
  rw [hb] at e1
  injection e1 with e1
  subst e1
  have h1 := (h.lt _ e).2
  have h3 : b' < w.heap.size := h1
  omega
theorem Piles.keepR {w w' : World} {lo n cap R0 : Nat} {A : Option Addr} {ps : List Pl} (h : Piles w lo A n cap ps) (hg : w.grownBy w' (some R0)) (hR : R0 < lo) : Piles w' lo A n cap ps := Sl.keep h hg (fun k e => by injection e with e; omega)
theorem ListRecs.keepR {R0 : Nat} (h : ListRecs R t w lo L A n cap xs hs) (hg : w.grownBy w' (some R0)) (hR : R0 < lo) (hL : R0 < L) : ListRecs R t w' lo L A n cap xs hs :=
  ⟨h.len, own_kept h.row hg (fun k e => by injection e with e; subst e; exact .inl hL), fun k x d hx hd => (h.piles k x d hx hd).keepR hg hR, h.apart⟩
theorem ListRecs.cell (h : ListRecs R t w lo L A n cap xs hs) {g k j : Nat} (hA : A = some ⟨g, 0, none⟩) {x : α} {d : Hd} (hx : xs[k]? = some x) (hd : hs[k]? = some d) (hj : j < R.own + 1) : w.cell? ⟨g, k * (R.own + 1) + j, none⟩ = (R.cells (x, d))[j]? := by
  subst hA
  have hkn : k < n := by rw [← h.xlen]; exact (List.getElem?_eq_some_iff.1 hx).1
  have hz : (xs.zip hs)[k]? = some (x, d) := by rw [List.getElem?_zip_eq_some]; exact ⟨hx, hd⟩
  rw [h.row.cellAt _ (by
    have : (k + 1) * (R.own + 1) ≤ n * (R.own + 1) := Nat.mul_le_mul_right _ hkn
    rw [Nat.succ_mul] at this
    omega)]
  exact cellsOf_at R.cells_len hz hj
/-- A store into a record's own cell. -/
theorem ListRecs.setField (h : ListRecs R t w lo L A n cap xs hs) {g k j : Nat} (hA : A = some ⟨g, 0, none⟩) {x x' : α} {u : Value} (hx : xs[k]? = some x) (hj : j < R.own) (hf : R.fields x' = (R.fields x).set j u) (hp : R.piles x' = R.piles x) :
    ListRecs R t (w.setCell ⟨g, k * (R.own + 1) + j, none⟩ u) lo L A n cap (xs.set k x') hs ∧ w.grownBy (w.setCell ⟨g, k * (R.own + 1) + j, none⟩ u) (some g) := by
  subst hA
  obtain ⟨hst, hgs⟩ := h.row.stored (k * (R.own + 1) + j) u
  have hkx : k < xs.length := (List.getElem?_eq_some_iff.1 hx).1
  have hkh : k < hs.length := by rw [h.len]; exact hkx
  have hh : hs[k]? = some hs[k] := List.getElem?_eq_getElem hkh
  have hz : (xs.zip hs)[k]? = some (x, hs[k]) := by rw [List.getElem?_zip_eq_some]; exact ⟨hx, hh⟩
  have hold : ∀ (i : Nat) (y : α) (d : Hd), (xs.set k x')[i]? = some y → hs[i]? = some d → ∃ y0, xs[i]? = some y0 ∧ R.piles y = R.piles y0 := by
    intro i y d hy hd
    by_cases hik : i = k
    · subst hik
      rw [List.getElem?_set_self hkx] at hy
      injection hy with hy
      subst hy
      exact ⟨x, hx, hp⟩
    · rw [List.getElem?_set_ne (fun e => hik e.symm)] at hy
      exact ⟨y, hy, rfl⟩
  refine ⟨⟨by simp [h.len], ?_, fun i y d hy hd => ?_, fun i y d hy hd hn b hb => ?_⟩, hgs⟩
  · rw [zip_set _ _ _ _ _ hh, cellsOf_set (j := j) (u := u) R.cells_len hz (by omega) (by
      show R.fields x' ++ _ = (R.fields x ++ _).set j u
      rw [List.set_append_left _ _ (by rw [R.flen]; exact hj), hf, hp])]
    exact hst
  · obtain ⟨y0, hy0, e⟩ := hold i y d hy hd
    rw [e]
    have hpl := h.piles i y0 d hy0 hd
    refine ⟨hpl.1, hpl.2.1, hpl.2.2.1, fun hn => ?_⟩
    obtain ⟨b, off, e1, hl, hb, hc⟩ := hpl.2.2.2 hn
    exact ⟨b, off, e1, hl, Nat.lt_of_lt_of_le hb hgs.size, fun j u hu => gb_cell hgs (hc j u hu) (fun e2 => h.apart i y0 d hy0 hd hn _ e1 e2.symm)⟩
  · obtain ⟨y0, hy0, e⟩ := hold i y d hy hd
    exact h.apart i y0 d hy0 hd (by rw [← e]; exact hn) b hb
end
end Go.Proofs.YtipnalfkpalieaaDoor
