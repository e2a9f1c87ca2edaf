/-
  Records of the call's own: one more in their midst.
-/
import Derived.Test.YtdhkhlemdlibfaaOwnPush
namespace Go.Proofs.Ytdhkhlemdlibfaa
open Go.RowKit
set_option linter.unusedVariables false

theorem apart_symm {a b : Option Nat} (h : a = none ∨ a ≠ b) : b = none ∨ b ≠ a := by
  cases b with
  | none => exact .inl rfl
  | some g =>
    refine .inr (fun e => ?_)
    rcases h with h | h
    · rw [h] at e; cases e
    · exact h e.symm
theorem apart_perm {l m : List (Option Nat)} (p : l.Perm m) (h : Apart l) : Apart m := (List.Perm.pairwise_iff (fun h => apart_symm h) p).1 h
theorem apart_cons {a : Option Nat} {l : List (Option Nat)} : Apart (a :: l) ↔ (∀ b ∈ l, a = none ∨ a ≠ b) ∧ Apart l := by unfold Apart; exact List.pairwise_cons
theorem zip_mid {α β : Type} {xs : List α} {hs : List β} (i : Nat) (x : α) (d : β) (hl : hs.length = xs.length) : (xs.take i ++ x :: xs.drop i).zip (hs.take i ++ d :: hs.drop i) = (xs.zip hs).take i ++ (x, d) :: (xs.zip hs).drop i := by
  rw [List.zip_append (by simp [hl]), List.zip_cons_cons, zip_take, zip_drop]

section
variable {α : Type} {R : Rec α} {pt t : TypeId} {w w' : World} {lo hi n cap k : Nat} {A : Option Addr} {xs : List α} {hs : List Hd}
theorem OwnRecs.insert (h : OwnRecs R pt t w lo hi A n cap xs hs) {A' : Option Addr} {c' i : Nat} {x : α} {d : Hd} (hy : w.ownsRow lo pt 2 (.slice d.1 (R.piles x).length d.2) (R.piles x).length (cellsOf plCells (R.piles x)))
    (hd : ∀ a ∈ (Value.slice A n cap).ownBlock :: hs.map hdBlk, a = none ∨ a ≠ hdBlk d)
    (hown : w'.ownsRow lo t (R.own + 1) (.slice A' (n + 1) c') (n + 1) ((cellsOf R.cells (xs.zip hs)).take (i * (R.own + 1)) ++ R.cells (x, d) ++ (cellsOf R.cells (xs.zip hs)).drop (i * (R.own + 1)))) (hg : w.grownBy w' (Value.slice A n cap).ownBlock)
    (hat : (Value.slice A' (n + 1) c').ownBlock = (Value.slice A n cap).ownBlock ∨ ∃ g, (Value.slice A' (n + 1) c').ownBlock = some g ∧ w.heap.size ≤ g) (hhi : hi ≤ w.heap.size) :
    OwnRecs R pt t w' lo w'.heap.size A' (n + 1) c' (xs.take i ++ x :: xs.drop i) (hs.take i ++ d :: hs.drop i) := by
  have hdb : (Value.slice d.1 (R.piles x).length d.2).ownBlock = hdBlk d := ownBlock_any _ _ _ _ _
  have hdw : ∀ g, hdBlk d = some g → g < w.heap.size := fun g e => (hy.lt g (by rw [hdb]; exact e)).2
  have hap := apart_cons.1 h.apart
  have hAll : ∀ a ∈ hdBlk d :: hs.map hdBlk, (Value.slice A n cap).ownBlock = none ∨ (Value.slice A n cap).ownBlock ≠ a := by
    intro a ha
    rcases List.mem_cons.1 ha with rfl | ha
    · exact hd _ (by simp)
    · exact hap.1 a ha
  have hAp : Apart (hdBlk d :: hs.map hdBlk) := apart_cons.2 ⟨fun b hb => apart_symm (hd b (List.mem_cons_of_mem _ hb)), hap.2⟩
  have hlt : ∀ g, some g ∈ hdBlk d :: hs.map hdBlk → g < w.heap.size := by
    intro g hgm
    rcases List.mem_cons.1 hgm with e | e
    · exact hdw g e.symm
    · have := h.bnd g (List.mem_cons_of_mem _ e); omega
  have hperm : (hs.map hdBlk).Perm ((hs.take i ++ hs.drop i).map hdBlk) := by rw [List.take_append_drop]
  have hp2 : (hdBlk d :: hs.map hdBlk).Perm ((hs.take i ++ d :: hs.drop i).map hdBlk) := by
    have h1 : (d :: (hs.take i ++ hs.drop i)).Perm (hs.take i ++ d :: hs.drop i) := List.perm_middle.symm
    rw [List.take_append_drop] at h1
    exact h1.map hdBlk
  have hz := zip_mid (xs := xs) (hs := hs) i x d h.len
  refine ⟨by simp [h.len], ?_, fun j y e hy' he => ?_, ?_, fun g hgm => ?_⟩
  · rw [hz, cellsOf_append, cellsOf_cons, ← cellsOf_take R.cells_len, ← cellsOf_drop R.cells_len, ← List.append_assoc]
    exact hown
  · have hm : (y, e) ∈ (xs.zip hs).take i ++ (x, d) :: (xs.zip hs).drop i := by
      rw [← hz]
      exact List.mem_of_getElem? (i := j) (by rw [List.getElem?_zip_eq_some]; exact ⟨hy', he⟩)
    have hm2 : (y, e) = (x, d) ∨ (y, e) ∈ xs.zip hs := by
      rcases List.mem_append.1 hm with hm | hm
      · exact .inr (List.take_subset _ _ hm)
      · rcases List.mem_cons.1 hm with hm | hm
        · exact .inl hm
        · exact .inr (List.drop_subset _ _ hm)
    have hxe : w.ownsRow lo pt 2 (.slice e.1 (R.piles y).length e.2) (R.piles y).length (cellsOf plCells (R.piles y)) ∧ hdBlk e ∈ hdBlk d :: hs.map hdBlk := by
      rcases hm2 with hm2 | hm2
      · injection hm2 with h1 h2
        subst h1 h2
        exact ⟨hy, by simp⟩
      · obtain ⟨k, hk⟩ := List.mem_iff_getElem?.1 hm2
        rw [List.getElem?_zip_eq_some] at hk
        exact ⟨h.piles k y e hk.1 hk.2, List.mem_cons_of_mem _ (List.mem_map.2 ⟨e, List.mem_of_getElem? hk.2, rfl⟩)⟩
    refine hxe.1.kept hg ?_
    rw [ownBlock_any e.1 (R.piles y).length 0 e.2 e.2]
    exact apart_symm (hAll _ hxe.2)
  · refine apart_perm (hp2.cons _) (apart_cons.2 ⟨fun b hb => ?_, hAp⟩)
    rcases hat with e | ⟨g, e, hgl⟩
    · rw [e]; exact hAll b hb
    · rw [e]
      refine .inr (fun e2 => ?_)
      have := hlt g (by rw [e2]; exact hb)
      omega
  · have hs1 := hg.size
    rcases List.mem_cons.1 hgm with e | e
    · exact (hown.lt g e.symm).2
    · have := hlt g (hp2.mem_iff.2 e)
      omega
end
end Go.Proofs.Ytdhkhlemdlibfaa
