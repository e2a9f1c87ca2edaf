/-
  Rows of ints: read (IRows), and of the call's own (OwnRows).
-/
import Derived.Test.YtipnalfkpalieaaDoorOwn
import Derived.Test.YtipnalfkpalieaaDoorTo
import Derived.Test.YtipnalfkpalieaaDoorKnown
namespace Go.Proofs.YtipnalfkpalieaaDoor
open Go.RowKit
set_option linter.unusedVariables false

abbrev Row := List Int
def tabCell (x : Row × Hd) : Value := .slice x.2.1 x.1.length x.2.2
def tabCells (yss : List Row) (hs : List Hd) : List Value := (yss.zip hs).map tabCell
theorem tabCells_len {yss : List Row} {hs : List Hd} (h : hs.length = yss.length) : (tabCells yss hs).length = yss.length := by simp [tabCells, h]
theorem tabCells_at {yss : List Row} {hs : List Hd} {k : Nat} {ys : Row} {d : Hd} (h1 : yss[k]? = some ys) (h2 : hs[k]? = some d) : (tabCells yss hs)[k]? = some (.slice d.1 ys.length d.2) := by
  have hz : (yss.zip hs)[k]? = some (ys, d) := by rw [List.getElem?_zip_eq_some]; exact ⟨h1, h2⟩
  unfold tabCells
  rw [List.getElem?_map, hz]
  rfl
theorem tabCells_push {yss : List Row} {hs : List Hd} (h : hs.length = yss.length) (ys : Row) (d : Hd) : tabCells (yss ++ [ys]) (hs ++ [d]) = tabCells yss hs ++ [.slice d.1 ys.length d.2] := by
  unfold tabCells
  rw [List.zip_append h.symm, List.map_append]
  rfl
/-- A slice of rows that reads as a table. -/
def IRows (w : World) (lo : Nat) (A : Option Addr) (n cap : Nat) (yss : List Row) : Prop :=
  ∃ hs : List Hd, hs.length = yss.length ∧ Sl w lo 1 A n cap (tabCells yss hs) ∧ ∀ (k : Nat) (ys : Row) (d : Hd), yss[k]? = some ys → hs[k]? = some d → Ints w lo d.1 ys.length d.2 ys
section
variable {w w' : World} {lo lo' n cap k : Nat} {A : Option Addr} {yss : List Row}
theorem IRows.len (h : IRows w lo A n cap yss) : yss.length = n := by
  obtain ⟨hs, hl, h1, _⟩ := h
  have := h1.2.2.1
  rw [tabCells_len hl] at this
  omega
theorem IRows.le (h : IRows w lo A n cap yss) : n ≤ cap := by obtain ⟨_, _, h1, _⟩ := h; exact h1.1
theorem IRows.max (h : IRows w lo A n cap yss) : cap ≤ 9223372036854775807 := by obtain ⟨_, _, h1, _⟩ := h; exact Sl.max h1
theorem IRows.keep0 (h : IRows w lo A n cap yss) (hg : w.grownBy w' none) : IRows w' lo A n cap yss := by
  obtain ⟨hs, hl, h1, h2⟩ := h
  exact ⟨hs, hl, h1.keep0 hg, fun k x y hx hy => Sl.keep0 (h2 k x y hx hy) hg⟩
theorem IRows.mono (h : IRows w lo A n cap yss) (hl' : lo' ≤ lo) : IRows w lo' A n cap yss := by
  obtain ⟨hs, hl, h1, h2⟩ := h
  exact ⟨hs, hl, h1.mono hl', fun k x y hx hy => Sl.mono (h2 k x y hx hy) hl'⟩
theorem IRows.at_ (h : IRows w lo A n cap yss) (hk : k < n) : ∃ b off ys A' c', A = some ⟨b, off, none⟩ ∧ Hid (yss[k]? = some ys) ∧ Ints w lo A' ys.length c' ys ∧ w.cell? ⟨b, off + k, none⟩ = some (.slice A' ys.length c') := by
  have hxl := h.len
  obtain ⟨hs, hl, h1, h2⟩ := h
  obtain ⟨b, off, rfl, hlo, hb, hc⟩ := h1.2.2.2 (by omega)
  have hx : yss[k]? = some yss[k] := List.getElem?_eq_getElem (by omega)
  have hh : hs[k]? = some hs[k] := List.getElem?_eq_getElem (by omega)
  exact ⟨b, off, yss[k], (hs[k]).1, (hs[k]).2, rfl, Lib.hid hx, h2 k _ _ hx hh, hc k _ (tabCells_at hx hh)⟩
end

/-- Rows of the call's own: their list at A, the rows at hs; all blocks lie from lo on, below hi, apart. -/
structure OwnRows (it t : TypeId) (w : World) (lo hi : Nat) (A : Option Addr) (n cap : Nat) (yss : List Row) (hs : List Hd) : Prop where
  len : hs.length = yss.length
  row : w.ownsRow lo t 1 (.slice A n cap) n (tabCells yss hs)
  rows : ∀ (k : Nat) (ys : Row) (d : Hd), yss[k]? = some ys → hs[k]? = some d → w.ownsRow lo it 1 (.slice d.1 ys.length d.2) ys.length (ys.map (Value.int .i64))
  apart : Apart ((Value.slice A n cap).ownBlock :: hs.map hdBlk)
  bnd : ∀ g, some g ∈ (Value.slice A n cap).ownBlock :: hs.map hdBlk → g < hi
section
variable {it t : TypeId} {w w' : World} {lo hi n cap k : Nat} {A : Option Addr} {yss : List Row} {hs : List Hd}
theorem OwnRows.xlen (h : OwnRows it t w lo hi A n cap yss hs) : yss.length = n := by
  have := h.row.1
  rw [tabCells_len h.len] at this
  omega
theorem OwnRows.irows (h : OwnRows it t w lo hi A n cap yss hs) : IRows w lo A n cap yss :=
  ⟨hs, h.len, Sl.own h.row, fun k x y hx hy => Sl.own (h.rows k x y hx hy)⟩
theorem OwnRows.keep (h : OwnRows it t w lo hi A n cap yss hs) (hg : w.grownBy w' none) : OwnRows it t w' lo hi A n cap yss hs :=
  ⟨h.len, own_below h.row hg, fun k x y hx hy => own_below (h.rows k x y hx hy) hg, h.apart, h.bnd⟩
theorem OwnRows.span {L H : Nat} (h : OwnRows it t w L H A n cap yss hs) (hsp : Span lo hi w w') (hl : hi ≤ L ∨ H ≤ lo) : OwnRows it t w' L H A n cap yss hs := by
  have hb : ∀ {v : Value}, v.ownBlock ∈ (Value.slice A n cap).ownBlock :: hs.map hdBlk → hi ≤ L ∨ ∀ g, v.ownBlock = some g → g < lo := by
    intro v hv
    rcases hl with hl | hl
    · exact .inl hl
    · exact .inr (fun g e => by have := h.bnd g (by rw [← e]; exact hv); omega)
  refine ⟨h.len, own_span (H := 0) h.row hsp (hb (by simp)), fun k x y hx hy => own_span (H := 0) (h.rows k x y hx hy) hsp (hb ?_), h.apart, h.bnd⟩
  rw [ownBlock_any y.1 x.length 0 y.2 y.2]
  exact List.mem_cons_of_mem _ (List.mem_map.2 ⟨y, List.mem_of_getElem? hy, rfl⟩)
theorem OwnRows.below (h : OwnRows it t w lo hi A n cap yss hs) (hb : Below hi w w') : OwnRows it t w' lo hi A n cap yss hs :=
  h.span (lo := hi) (hi := w.heap.size) ⟨hb.os, hb.tape, hb.output, hb.size, fun i hi' hl => hb.block i (by omega)⟩ (.inr (Nat.le_refl _))
theorem OwnRows.wide {lo' hi' : Nat} (h : OwnRows it t w lo hi A n cap yss hs) (hl : lo' ≤ lo) (hh : hi ≤ hi') : OwnRows it t w lo' hi' A n cap yss hs :=
  ⟨h.len, own_lo h.row hl, fun k x y hx hy => own_lo (h.rows k x y hx hy) hl, h.apart, fun g hg => Nat.lt_of_lt_of_le (h.bnd g hg) hh⟩
theorem OwnRows.nil (it t : TypeId) (w : World) (lo hi : Nat) : OwnRows it t w lo hi none 0 0 [] [] :=
  ⟨rfl, own_nil _ _ _ _, fun k x y hx => by simp at hx, by simp [Apart], fun g hg => by simp [Value.ownBlock] at hg⟩
theorem OwnRows.empty (it t : TypeId) (w : World) (lo : Nat) (hl : lo ≤ w.heap.size) : OwnRows it t (w.alloc (.cells #[] t)) lo (w.heap.size + 1) (some ⟨w.heap.size, 0, none⟩) 0 0 [] [] :=
  ⟨rfl, own_empty _ _ _ _ hl, fun k x y hx => by simp at hx, by simp [Apart], fun g hg => by simp [Value.ownBlock] at hg; omega⟩
/-- One more row: what an append leaves. The new row lies from hi on. -/
theorem OwnRows.push (h : OwnRows it t w lo hi A n cap yss hs) {A' : Option Addr} {c' : Nat} {ys : Row} {d : Hd} (hy : w.ownsRow hi it 1 (.slice d.1 ys.length d.2) ys.length (ys.map (Value.int .i64))) (hlo : lo ≤ hi)
    (hown : w'.ownsRow lo t 1 (.slice A' (n + 1) c') (n + 1) (tabCells yss hs ++ [.slice d.1 ys.length d.2])) (hg : w.grownBy w' (Value.slice A n cap).ownBlock)
    (hat : (Value.slice A' (n + 1) c').ownBlock = (Value.slice A n cap).ownBlock ∨ ∃ g, (Value.slice A' (n + 1) c').ownBlock = some g ∧ w.heap.size ≤ g) (hhi : hi ≤ w.heap.size) :
    OwnRows it t w' lo w'.heap.size A' (n + 1) c' (yss ++ [ys]) (hs ++ [d]) := by
  have hdb : (Value.slice d.1 ys.length d.2).ownBlock = hdBlk d := ownBlock_any _ _ _ _ _
  have hdn : ∀ g, hdBlk d = some g → hi ≤ g ∧ g < w.heap.size := fun g e => hy.lt g (by rw [hdb]; exact e)
  have hAo : ∀ g, (Value.slice A n cap).ownBlock = some g → g < hi := fun g e => h.bnd g (by rw [← e]; simp)
  have hold : ∀ a ∈ hs.map hdBlk, ∀ g, a = some g → g < hi := fun a ha g e => h.bnd g (by rw [← e]; exact List.mem_cons_of_mem _ ha)
  have hnew : ∀ a ∈ hs.map hdBlk ++ [hdBlk d], a = none ∨ a ≠ (Value.slice A n cap).ownBlock := by
    intro a ha
    rcases List.mem_append.1 ha with ha | ha
    · obtain ⟨j, hj⟩ := List.mem_iff_getElem?.1 ha
      exact apart_at h.apart (i := j + 1) (j := 0) (by simpa using hj) rfl (by omega)
    · rw [List.mem_singleton.1 ha]
      cases e : hdBlk d with
      | none => exact .inl rfl
      | some g =>
        refine .inr (fun e' => ?_)
        have := (hdn g e).1
        have := hAo g e'.symm
        omega
  have hblt : ∀ a ∈ hs.map hdBlk ++ [hdBlk d], ∀ g, a = some g → g < w.heap.size := by
    intro a ha g e
    rcases List.mem_append.1 ha with ha | ha
    · have := hold a ha g e; omega
    · rw [List.mem_singleton.1 ha] at e
      exact (hdn g e).2
  refine ⟨by simp [h.len], by rw [tabCells_push h.len]; exact hown, fun j x e hx he => ?_, ?_, fun g hgm => ?_⟩
  · have hxe : w.ownsRow lo it 1 (.slice e.1 x.length e.2) x.length (x.map (Value.int .i64)) ∧ hdBlk e ∈ hs.map hdBlk ++ [hdBlk d] := by
      rcases snoc_at hx with ⟨h1, h2⟩ | ⟨h1, h2⟩
      · rcases snoc_at he with ⟨h3, h4⟩ | ⟨h3, h4⟩
        · exact ⟨h.rows j x e h2 h4, List.mem_append_left _ (List.mem_map.2 ⟨e, List.mem_of_getElem? h4, rfl⟩)⟩
        · rw [h.len] at h3; omega
      · rcases snoc_at he with ⟨h3, h4⟩ | ⟨h3, h4⟩
        · rw [h.len] at h3; omega
        · subst h2 h4
          exact ⟨own_lo hy hlo, by simp⟩
    refine hxe.1.kept hg ?_
    rw [ownBlock_any e.1 x.length 0 e.2 e.2]
    exact hnew _ hxe.2
  · have hap : Apart (hs.map hdBlk ++ [hdBlk d]) := by
      have h0 : Apart (hs.map hdBlk) := by
        have := h.apart
        unfold Apart at this ⊢
        exact (List.pairwise_cons.1 this).2
      refine apart_push h0 (fun a ha => ?_)
      cases ea : a with
      | none => exact .inl rfl
      | some g =>
        refine .inr (fun e' => ?_)
        have := hold a ha g ea
        have := (hdn g e'.symm).1
        omega
    rw [List.map_append, List.map_cons, List.map_nil]
    unfold Apart at hap ⊢
    refine List.pairwise_cons.2 ⟨fun a ha => ?_, hap⟩
    rcases hat with e | ⟨g, e, hgl⟩
    · rw [e]
      rcases hnew a ha with e1 | e1
      · cases e2 : (Value.slice A n cap).ownBlock with
        | none => exact .inl rfl
        | some g => exact .inr (by rw [e1]; simp)
      · exact .inr (fun e2 => e1 e2.symm)
    · rw [e]
      refine .inr (fun e2 => ?_)
      have := hblt a ha g e2.symm
      omega
  · rw [List.map_append, List.map_cons, List.map_nil] at hgm
    have hs1 := hg.size
    rcases List.mem_cons.1 hgm with e | e
    · exact (hown.lt g e.symm).2
    · have := hblt _ e g rfl
      omega
/-- Another row in the place of one: what a store leaves. -/
theorem OwnRows.swap (h : OwnRows it t w lo hi A n cap yss hs) {g : Nat} (hA : A = some ⟨g, 0, none⟩) {ys : Row} {d : Hd} (hk : k < n) (hy : w.ownsRow hi it 1 (.slice d.1 ys.length d.2) ys.length (ys.map (Value.int .i64))) (hlo : lo ≤ hi) (hhi : hi ≤ w.heap.size) :
    OwnRows it t (w.setCell ⟨g, k, none⟩ (.slice d.1 ys.length d.2)) lo w.heap.size A n cap (yss.set k ys) (hs.set k d) ∧ w.grownBy (w.setCell ⟨g, k, none⟩ (.slice d.1 ys.length d.2)) (some g) := by
  subst hA
  obtain ⟨hst, hgs⟩ := h.row.stored k (.slice d.1 ys.length d.2)
  have hkx : k < yss.length := by rw [h.xlen]; exact hk
  have hkh : k < hs.length := by rw [h.len]; exact hkx
  have hdb : (Value.slice d.1 ys.length d.2).ownBlock = hdBlk d := ownBlock_any _ _ _ _ _
  have hdn : ∀ b, hdBlk d = some b → hi ≤ b ∧ b < w.heap.size := fun b e => hy.lt b (by rw [hdb]; exact e)
  have hgh : g < hi := h.bnd g (by simp [Value.ownBlock])
  have hold : ∀ a ∈ hs.map hdBlk, ∀ b, a = some b → b < hi := fun a ha b e => h.bnd b (by rw [← e]; exact List.mem_cons_of_mem _ ha)
  have hmem : ∀ {a}, a ∈ (hs.set k d).map hdBlk → a ∈ hs.map hdBlk ∨ a = hdBlk d := by
    intro a ha
    obtain ⟨e, he, rfl⟩ := List.mem_map.1 ha
    rcases List.mem_or_eq_of_mem_set he with h1 | h1
    · exact .inl (List.mem_map.2 ⟨e, h1, rfl⟩)
    · exact .inr (by rw [h1])
  refine ⟨⟨by simp [h.len], ?_, fun j x e hx he => ?_, ?_, fun b hb => ?_⟩, hgs⟩
  · have hz : tabCells (yss.set k ys) (hs.set k d) = (tabCells yss hs).set k (.slice d.1 ys.length d.2) := by
      unfold tabCells
      rw [show (yss.set k ys).zip (hs.set k d) = (yss.zip hs).set k (ys, d) from by
        apply List.ext_getElem?
        intro j
        by_cases hj : j = k
        · subst hj
          rw [List.getElem?_set_self (by rw [List.length_zip, h.len]; omega), List.getElem?_zip_eq_some]
          exact ⟨List.getElem?_set_self hkx, List.getElem?_set_self hkh⟩
        · rw [List.getElem?_set_ne (fun e => hj e.symm)]
          simp only [List.zip, List.getElem?_zipWith, List.getElem?_set_ne (fun e => hj (Eq.symm e))], List.map_set]
      rfl
    rw [hz]
    exact hst
  · by_cases hj : j = k
    · subst hj
      rw [List.getElem?_set_self hkx] at hx
      rw [List.getElem?_set_self hkh] at he
      injection hx with hx
      injection he with he
      subst hx he
      refine (own_lo hy hlo).kept hgs ?_
      rw [hdb]
      cases e : hdBlk d with
      | none => exact .inl rfl
      | some b =>
        refine .inr (fun e' => ?_)
        injection e' with e'
        have := (hdn b e).1
        omega
    · rw [List.getElem?_set_ne (fun e => hj e.symm)] at hx he
      refine (h.rows j x e hx he).kept hgs ?_
      rw [ownBlock_any e.1 x.length 0 e.2 e.2]
      exact apart_at h.apart (i := j + 1) (j := 0) (a := hdBlk e) (by simp [he]) rfl (by omega)
  · have hap := h.apart
    unfold Apart at hap ⊢
    rw [List.pairwise_iff_getElem] at hap ⊢
    intro i j hi' hj' hij
    have key : ∀ (q : Nat) (hq : q < ((Value.slice (some ⟨g, 0, none⟩) n cap).ownBlock :: (hs.set k d).map hdBlk).length), (q = k + 1 ∧ ((Value.slice (some ⟨g, 0, none⟩) n cap).ownBlock :: (hs.set k d).map hdBlk)[q] = hdBlk d) ∨
        (q ≠ k + 1 ∧ ∃ hq2 : q < ((Value.slice (some ⟨g, 0, none⟩) n cap).ownBlock :: hs.map hdBlk).length, ((Value.slice (some ⟨g, 0, none⟩) n cap).ownBlock :: (hs.set k d).map hdBlk)[q] = ((Value.slice (some ⟨g, 0, none⟩) n cap).ownBlock :: hs.map hdBlk)[q]) := by
      intro q hq
      by_cases hqk : q = k + 1
      · subst hqk
        exact .inl ⟨rfl, by simp⟩
      · refine .inr ⟨hqk, by simpa using hq, ?_⟩
        cases q with
        | zero => rfl
        | succ q =>
          simp only [List.getElem_cons_succ, List.getElem_map]
          rw [List.getElem_set_ne (by omega)]
    have hbd : ∀ (q : Nat) (hq2 : q < ((Value.slice (some ⟨g, 0, none⟩) n cap).ownBlock :: hs.map hdBlk).length) (b : Nat), ((Value.slice (some ⟨g, 0, none⟩) n cap).ownBlock :: hs.map hdBlk)[q] = some b → b < hi := by
      intro q hq2 b e
      exact h.bnd b (by rw [← e]; exact List.getElem_mem _)
    rcases key i hi' with ⟨e1, e2⟩ | ⟨e1, hq2, e2⟩
    · rcases key j hj' with ⟨e3, e4⟩ | ⟨e3, hq4, e4⟩
      · omega
      · rw [e2, e4]
        cases e : hdBlk d with
        | none => exact .inl rfl
        | some b =>
          refine .inr (fun e' => ?_)
          have := (hdn b e).1
          have := hbd j hq4 b e'.symm
          omega
    · rcases key j hj' with ⟨e3, e4⟩ | ⟨e3, hq4, e4⟩
      · rw [e2, e4]
        cases e : ((Value.slice (some ⟨g, 0, none⟩) n cap).ownBlock :: hs.map hdBlk)[i] with
        | none => exact .inl rfl
        | some b =>
          refine .inr (fun e' => ?_)
          have := (hdn b e'.symm).1
          have := hbd i hq2 b e
          omega
      · rw [e2, e4]
        exact hap i j hq2 hq4 hij
  · rcases List.mem_cons.1 hb with e | e
    · have := h.bnd b (by rw [← e]; simp)
      omega
    · rcases hmem e with e | e
      · have := hold _ e b rfl
        omega
      · exact (hdn b e.symm).2
/-- A row, written. -/
theorem OwnRows.setRow (h : OwnRows it t w lo hi A n cap yss hs) {ys ys' : Row} {d : Hd} (hx : yss[k]? = some ys) (hd : hs[k]? = some d) (hl : ys'.length = ys.length)
    (hg : w.grownBy w' (Value.slice d.1 ys.length d.2).ownBlock) (hp : w'.ownsRow lo it 1 (.slice d.1 ys.length d.2) ys.length (ys'.map (Value.int .i64))) :
    OwnRows it t w' lo hi A n cap (yss.set k ys') hs ∧ Span lo hi w w' := by
  have hkx : k < yss.length := (List.getElem?_eq_some_iff.1 hx).1
  have hdb : (Value.slice d.1 ys.length d.2).ownBlock = hdBlk d := ownBlock_any _ _ _ _ _
  have hmem : hdBlk d ∈ (Value.slice A n cap).ownBlock :: hs.map hdBlk := List.mem_cons_of_mem _ (List.mem_map.2 ⟨d, List.mem_of_getElem? hd, rfl⟩)
  refine ⟨⟨by simp [h.len], ?_, fun i y e hy he => ?_, h.apart, h.bnd⟩, Span.of_row hg (fun b hb => ⟨((h.rows k ys d hx hd).lt b hb).1, h.bnd b (by rw [hdb] at hb; rw [← hb]; exact hmem)⟩)⟩
  · have hz : tabCells (yss.set k ys') hs = tabCells yss hs := by
      unfold tabCells
      apply List.ext_getElem?
      intro j
      rw [List.getElem?_map, List.getElem?_map]
      simp only [List.zip, List.getElem?_zipWith]
      by_cases hj : j = k
      · subst hj
        rw [List.getElem?_set_self hkx, hx, hd]
        simp [tabCell, hl]
      · rw [List.getElem?_set_ne (fun e => hj e.symm)]
    rw [hz]
    refine h.row.kept hg ?_
    rw [hdb]
    exact apart_at h.apart (i := 0) (j := k + 1) rfl (by simp [hd]) (by omega)
  · by_cases hik : i = k
    · subst hik
      rw [List.getElem?_set_self hkx] at hy
      injection hy with hy
      subst hy
      rw [hd] at he
      injection he with he
      subst he
      rw [hl]
      exact hp
    · rw [List.getElem?_set_ne (fun e => hik e.symm)] at hy
      refine (h.rows i y e hy he).kept hg ?_
      rw [hdb, ownBlock_any e.1 y.length 0 e.2 e.2]
      exact apart_at h.apart (i := i + 1) (j := k + 1) (a := hdBlk e) (b := hdBlk d) (by simp [he]) (by simp [hd]) (by omega)
end
end Go.Proofs.YtipnalfkpalieaaDoor
