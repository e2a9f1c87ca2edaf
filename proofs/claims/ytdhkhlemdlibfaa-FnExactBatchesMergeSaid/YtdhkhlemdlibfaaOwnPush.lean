/-
  Records of the call's own: one more; what other calls leave as it was.
-/
import Derived.Test.YtdhkhlemdlibfaaOwn
namespace Go.Proofs.Ytdhkhlemdlibfaa
open Go.RowKit
set_option linter.unusedVariables false

section
variable {α : Type} {R : Rec α} {pt t : TypeId} {w w' : World} {lo hi n cap k : Nat} {A : Option Addr} {xs : List α} {hs : List Hd}
theorem OwnRecs.spanOut {L H : Nat} (h : OwnRecs R pt t w L H A n cap xs hs) (hsp : Span lo hi w w') (hl : hi ≤ L ∨ H ≤ lo) : OwnRecs R pt t w' L H A n cap xs hs := by
  have hb : ∀ {v : Value}, v.ownBlock ∈ (Value.slice A n cap).ownBlock :: hs.map hdBlk → hi ≤ L ∨ ∀ g, v.ownBlock = some g → g < lo := by
    intro v hv
    rcases hl with hl | hl
    · exact .inl hl
    · exact .inr (fun g e => by have := h.bnd g (by rw [← e]; exact hv); omega)
  refine ⟨h.len, own_span (H := 0) h.row hsp (hb (by simp)), fun k x y hx hy => own_span (H := 0) (h.piles k x y hx hy) hsp (hb ?_), h.apart, h.bnd⟩
  rw [ownBlock_any y.1 (R.piles x).length 0 y.2 y.2]
  exact List.mem_cons_of_mem _ (List.mem_map.2 ⟨y, List.mem_of_getElem? hy, rfl⟩)
theorem OwnRecs.wide {lo' hi' : Nat} (h : OwnRecs R pt t w lo hi A n cap xs hs) (hl : lo' ≤ lo) (hh : hi ≤ hi') : OwnRecs R pt t w lo' hi' A n cap xs hs :=
  ⟨h.len, own_lo h.row hl, fun k x y hx hy => own_lo (h.piles k x y hx hy) hl, h.apart, fun g hg => Nat.lt_of_lt_of_le (h.bnd g hg) hh⟩
theorem OwnRecs.nil (R : Rec α) (pt t : TypeId) (w : World) (lo hi : Nat) : OwnRecs R pt t w lo hi none 0 0 [] [] :=
  ⟨rfl, own_nil _ _ _ _, fun k x y hx => by simp at hx, by simp [Apart], fun g hg => by simp [Value.ownBlock] at hg⟩
theorem OwnRecs.empty (R : Rec α) (pt t : TypeId) (w : World) (lo : Nat) (hl : lo ≤ w.heap.size) : OwnRecs R pt t (w.alloc (.cells #[] t)) lo (w.heap.size + 1) (some ⟨w.heap.size, 0, none⟩) 0 0 [] [] :=
  ⟨rfl, own_empty _ _ _ _ hl, fun k x y hx => by simp at hx, by simp [Apart], fun g hg => by simp [Value.ownBlock] at hg; omega⟩
/-- One more record: what an append leaves. Its piles lie from hi on. -/
theorem OwnRecs.push (h : OwnRecs R pt t w lo hi A n cap xs hs) {A' : Option Addr} {c' : Nat} {x : α} {d : Hd} (hy : w.ownsRow hi pt 2 (.slice d.1 (R.piles x).length d.2) (R.piles x).length (cellsOf plCells (R.piles x))) (hlo : lo ≤ hi)
    (hown : w'.ownsRow lo t (R.own + 1) (.slice A' (n + 1) c') (n + 1) (cellsOf R.cells (xs.zip hs) ++ R.cells (x, d))) (hg : w.grownBy w' (Value.slice A n cap).ownBlock)
    (hat : (Value.slice A' (n + 1) c').ownBlock = (Value.slice A n cap).ownBlock ∨ ∃ g, (Value.slice A' (n + 1) c').ownBlock = some g ∧ w.heap.size ≤ g) (hhi : hi ≤ w.heap.size) :
    OwnRecs R pt t w' lo w'.heap.size A' (n + 1) c' (xs ++ [x]) (hs ++ [d]) := by
  have hdb : (Value.slice d.1 (R.piles x).length d.2).ownBlock = hdBlk d := ownBlock_any _ _ _ _ _
  have hdn : ∀ g, hdBlk d = some g → hi ≤ g ∧ g < w.heap.size := fun g e => hy.lt g (by rw [hdb]; exact e)
  have hAo : ∀ g, (Value.slice A n cap).ownBlock = some g → g < hi := fun g e => h.bnd g (by rw [← e]; simp)
  have hold : ∀ a ∈ hs.map hdBlk, ∀ g, a = some g → g < hi := fun a ha g e => h.bnd g (by rw [← e]; exact List.mem_cons_of_mem _ ha)
  have hnew : ∀ a ∈ hs.map hdBlk ++ [hdBlk d], a = none ∨ a ≠ (Value.slice A n cap).ownBlock := by
    intro a ha
    rcases List.mem_append.1 ha with ha | ha
    · obtain ⟨j, hj⟩ := List.mem_iff_getElem?.1 ha
      exact apart_at h.apart (i := j + 1) (j := 0) (by simpa using hj) rfl (by omega)
    · rw [List.mem_singleton.1 ha]
      cases e : hdBlk d with
      | none => exact .inl rfl
      | some g =>
        refine .inr (fun e' => ?_)
        have := (hdn g e).1
        have := hAo g e'.symm
        omega
  have hblt : ∀ a ∈ hs.map hdBlk ++ [hdBlk d], ∀ g, a = some g → g < w.heap.size := by
    intro a ha g e
    rcases List.mem_append.1 ha with ha | ha
    · have := hold a ha g e; omega
    · rw [List.mem_singleton.1 ha] at e
      exact (hdn g e).2
  refine ⟨by simp [h.len], ?_, fun j y e hy' he => ?_, ?_, fun g hgm => ?_⟩
  · rw [List.zip_append h.len.symm, cellsOf_append]
    simpa [cellsOf] using hown
  · have hxe : w.ownsRow lo pt 2 (.slice e.1 (R.piles y).length e.2) (R.piles y).length (cellsOf plCells (R.piles y)) ∧ hdBlk e ∈ hs.map hdBlk ++ [hdBlk d] := by
      rcases snoc_at hy' with ⟨h1, h2⟩ | ⟨h1, h2⟩
      · rcases snoc_at he with ⟨h3, h4⟩ | ⟨h3, h4⟩
        · exact ⟨h.piles j y e h2 h4, List.mem_append_left _ (List.mem_map.2 ⟨e, List.mem_of_getElem? h4, rfl⟩)⟩
        · rw [h.len] at h3; omega
      · rcases snoc_at he with ⟨h3, h4⟩ | ⟨h3, h4⟩
        · rw [h.len] at h3; omega
        · subst h2 h4
          exact ⟨own_lo hy hlo, by simp⟩
    refine hxe.1.kept hg ?_
    rw [ownBlock_any e.1 (R.piles y).length 0 e.2 e.2]
    exact hnew _ hxe.2
  · have hap : Apart (hs.map hdBlk ++ [hdBlk d]) := by
      have h0 : Apart (hs.map hdBlk) := by
        have := h.apart
        unfold Apart at this ⊢
        exact (List.pairwise_cons.1 this).2
      refine apart_push h0 (fun a ha => ?_)
      cases ea : a with
      | none => exact .inl rfl
      | some g =>
        refine .inr (fun e' => ?_)
        have := hold a ha g ea
        have := (hdn g e'.symm).1
        omega
    rw [List.map_append, List.map_cons, List.map_nil]
    unfold Apart at hap ⊢
    refine List.pairwise_cons.2 ⟨fun a ha => ?_, hap⟩
    rcases hat with e | ⟨g, e, hgl⟩
    · rw [e]
      rcases hnew a ha with e1 | e1
      · cases e2 : (Value.slice A n cap).ownBlock with
        | none => exact .inl rfl
        | some g => exact .inr (by rw [e1]; simp)
      · exact .inr (fun e2 => e1 e2.symm)
    · rw [e]
      refine .inr (fun e2 => ?_)
      have := hblt a ha g e2.symm
      omega
  · rw [List.map_append, List.map_cons, List.map_nil] at hgm
    have hs1 := hg.size
    rcases List.mem_cons.1 hgm with e | e
    · exact (hown.lt g e.symm).2
    · have := hblt _ e g rfl
      omega
end
end Go.Proofs.Ytdhkhlemdlibfaa
