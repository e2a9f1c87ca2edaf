/-
  How arguments that are slices of piles, of batches or of precincts are opened, over any program.
-/
import Derived.Test.YtipnalfkpalieaaDoorPilesMem
import Derived.Test.YtipnalfkpalieaaDoorArgs
import Derived.Deep.Slices
import Derived.Deep.Fields
import Derived.ChangeSame
namespace Go.Proofs.YtipnalfkpalieaaDoor
open Go.RowKit Go.ChangeShapes Go.WideShapes Go.ChangeAt Go.Deep
set_option linter.unusedVariables false

section
variable {H : Type} {enc : TypeId × Value → H} {P : Program} {w : World} {base : Nat} {spare : Nat → Bool} {held : Bool}
theorem open_fields {t e : TypeId} {fs : Array Field} {fuel : Nat} {cs : List Value} {x : DataW H × List MemPlace} (ht : P.underlying t = some (.slice e)) (he : P.underlying e = some (.struct fs))
    (hone : oneCellFields P fs = true) (hC : P.cellsOf e = fs.size) (h : DataW.trod enc P w base spare held fuel t cs = some x) :
    cs = [.slice none 0 0] ∨
    ∃ (a : Addr) (len cap : Nat), cs = [.slice (some a) len cap] ∧ len ≤ cap ∧ cap ≤ maxLen ∧
      ∀ i, i < len → ∃ n, ∀ (j : Nat) (f : Field), fs[j]? = some f → ∃ (v : Value) (y : DataW H × List MemPlace), w.cell? (a.add (i * fs.size + j)) = some v ∧ DataW.trod enc P w base spare held n f.type [v] = some y := by
  rcases open_slice ht h with ⟨h0, _⟩ | ⟨a, len, cap, m, n, D, Pl, hcs, hb, hl, hm, hmm, hx, hi⟩
  · exact .inl h0
  · refine .inr ⟨a, len, cap, hcs, hl, hm, fun i him => ?_⟩
    obtain ⟨cs', hc, ht'⟩ := hi i (by split at hmm <;> omega)
    rw [hC] at hc
    obtain ⟨ys, n', hn', hy, hlen, hyl, hf⟩ := DataW.trod_struct he ht'
    obtain ⟨_, hcl, hat⟩ := World.cells?_some hc
    refine ⟨n', fun j f hj => ?_⟩
    obtain ⟨ho, hk⟩ := hone_of hone j f hj
    have hjl : j < fs.size := (Array.getElem?_eq_some_iff.1 hj).1
    have hcell := hat j hjl
    have hv : cs'[j]? = some (cs'[j]'(by omega)) := List.getElem?_eq_getElem (by omega)
    have h1 := hf j f hj
    rw [ho, hk] at h1
    have hone' : (cs'.drop j).take 1 = [cs'[j]'(by omega)] := by
      rw [List.drop_eq_getElem_cons (by omega)]
      rfl
    rw [hone'] at h1
    have hys : ys[j]? = some (ys[j]'(by omega)) := List.getElem?_eq_getElem (by omega)
    refine ⟨_, _, ?_, h1.trans hys⟩
    rw [← Go.Deep.add_add, hcell, hv]
theorem spot_of0 {a : Addr} {w : World} {v : Value} (h : w.cell? (a.add 0) = some v) : ∃ b off, a = ⟨b, off, none⟩ := ⟨_, _, spot_of h⟩
/-- From the elements one by one to the list. -/
theorem list_of {α : Type} {p : Nat → α → Prop} : ∀ (n : Nat), (∀ i, i < n → ∃ x, p i x) → ∃ xs : List α, xs.length = n ∧ ∀ i x, xs[i]? = some x → p i x
  | 0, _ => ⟨[], rfl, fun i x h => by simp at h⟩
  | n + 1, h => by
    obtain ⟨xs, hl, hp⟩ := list_of n (fun i hi => h i (by omega))
    obtain ⟨x, hx⟩ := h n (by omega)
    refine ⟨xs ++ [x], by simp [hl], fun i y hy => ?_⟩
    by_cases hi : i < n
    · rw [List.getElem?_append_left (by omega)] at hy
      exact hp i y hy
    · rw [List.getElem?_append_right (by omega)] at hy
      have : i - xs.length = 0 := by
        have := (List.getElem?_eq_some_iff.1 hy).1
        simpa using this
      rw [this] at hy
      injection hy with hy
      subst hy
      obtain rfl : i = n := by omega
      exact hx
theorem cells_of_each {α : Type} {f : α → List Value} {size : Nat} (hf : ∀ x, (f x).length = size) {xs : List α} {w : World} {b off : Nat} (h : ∀ i x, xs[i]? = some x → ∀ j u, (f x)[j]? = some u → w.cell? ⟨b, off + i * size + j, none⟩ = some u) :
    ∀ j u, (cellsOf f xs)[j]? = some u → w.cell? ⟨b, off + j, none⟩ = some u := by
  intro j u hu
  have hl := (List.getElem?_eq_some_iff.1 hu).1
  rw [cellsOf_len hf] at hl
  have h0 : 0 < size := by rcases Nat.eq_zero_or_pos size with h0 | h0; (subst h0; omega); exact h0
  have hq : j / size < xs.length := (Nat.div_lt_iff_lt_mul h0).2 hl
  have hx : xs[j / size]? = some xs[j / size] := List.getElem?_eq_getElem hq
  have hr : j % size < size := Nat.mod_lt _ h0
  have hj : j / size * size + j % size = j := by rw [Nat.mul_comm]; exact Nat.div_add_mod j size
  have := h _ _ hx (j % size) u (by rw [← cellsOf_at hf hx hr, hj]; exact hu)
  rw [Nat.add_assoc, hj] at this
  exact this

/-- What a wf list of piles is. -/
def PlsWf (ps : List Pl) : Prop := ∀ p ∈ ps, (Lit.int .i64 p.2).wf = true ∧ p.1.size ≤ maxLen
theorem arg_piles {t e ti ts : TypeId} {f0 f1 : Field} {a : Option Addr} {len cap fuel : Nat} {x : DataW H × List MemPlace} (ht : P.underlying t = some (.slice e)) (he : P.underlying e = some (.struct #[f0, f1])) (h0 : f0.type = ts) (h1 : f1.type = ti) (hti : P.underlying ti = some (.int .i64)) (hts : P.underlying ts = some .string)
    (hone : oneCellFields P #[f0, f1] = true) (hC : P.cellsOf e = 2) (h : DataW.trod enc P w base spare held fuel t [.slice a len cap] = some x) : ∃ ps : List Pl, PlsWf ps ∧ Piles w 0 a len cap ps := by
  rcases open_fields ht he hone hC h with hcs | ⟨x, l, c, hcs, hl, hm, hi⟩
  · simp at hcs
    obtain ⟨rfl, rfl, rfl⟩ := hcs
    exact ⟨[], (by intro p hp; cases hp), Piles.nil _ _ _ _ (Nat.zero_le _)⟩
  · simp at hcs
    obtain ⟨rfl, rfl, rfl⟩ := hcs
    obtain ⟨ps, hpl, hps⟩ := list_of (α := Pl) (p := fun i p => ((Lit.int .i64 p.2).wf = true ∧ p.1.size ≤ maxLen) ∧ w.cell? (x.add (i * 2)) = some (.string p.1) ∧ w.cell? (x.add (i * 2 + 1)) = some (.int .i64 p.2)) len (fun i hil => by
      obtain ⟨n, hf⟩ := hi i hil
      obtain ⟨v0, y0, hc0, ht0⟩ := hf 0 f0 rfl
      obtain ⟨v1, y1, hc1, ht1⟩ := hf 1 f1 rfl
      rw [h0] at ht0
      rw [h1] at ht1
      obtain ⟨s, hs, _, hsz⟩ := DataW.trod_string hts ht0
      obtain ⟨z, hz, _, hw⟩ := DataW.trod_int hti ht1
      simp at hs hz
      subst hs hz
      exact ⟨(s, z), ⟨hw, hsz⟩, hc0, hc1⟩)
    refine ⟨ps, fun p hp => ?_, hl, hm, by rw [cellsOf_len plCells_len, hpl], fun hn => ?_⟩
    · obtain ⟨i, hi'⟩ := List.mem_iff_getElem?.1 hp
      exact (hps i p hi').1
    · have hp0 := hps 0 _ (List.getElem?_eq_getElem (by omega))
      obtain ⟨b, off, rfl⟩ := spot_of0 hp0.2.1
      refine ⟨b, off, rfl, Nat.zero_le _, ?_, cells_of_each plCells_len (fun i p hp j u hu => ?_)⟩
      · have := World.block_lt_of_cell? _ _ hp0.2.1
        rw [add_none] at this
        exact this
      · obtain ⟨_, q1, q2⟩ := hps i p hp
        rw [add_none] at q1 q2
        match j, hu with
        | 0, hu => simp [plCells] at hu; subst hu; exact q1
        | 1, hu => simp [plCells] at hu; subst hu; rw [← Nat.add_assoc] at q2; exact q2
        | j + 2, hu => simp [plCells] at hu

theorem zip_parts {α β : Type} (l : List (α × β)) : (l.map (·.1)).zip (l.map (·.2)) = l := by
  induction l with
  | nil => rfl
  | cons x l ih => simp [ih]
/-- The piles of all records. -/
def RecsWf {α : Type} (R : Rec α) (xs : List α) : Prop := ∀ x ∈ xs, PlsWf (R.piles x)
theorem recs_of {α : Type} {R : Rec α} {a : Addr} {len cap : Nat} (hl : len ≤ cap) (hm : cap ≤ maxLen) (h : ∀ i, i < len → ∃ x : α × Hd, PlsWf (R.piles x.1) ∧ Piles w 0 x.2.1 (R.piles x.1).length x.2.2 (R.piles x.1) ∧ ∀ j u, (R.cells x)[j]? = some u → w.cell? (a.add (i * (R.own + 1) + j)) = some u) :
    ∃ xs : List α, RecsWf R xs ∧ Recs R w 0 (some a) len cap xs := by
  obtain ⟨xs, hxl, hxs⟩ := list_of len h
  refine ⟨xs.map (·.1), fun x hx => ?_, xs.map (·.2), by simp, ⟨hl, hm, by rw [zip_parts]; rw [cellsOf_len R.cells_len, hxl], fun hn => ?_⟩, fun k x y hx hy => ?_⟩
  · obtain ⟨y, hy, rfl⟩ := List.mem_map.1 hx
    obtain ⟨i, hi⟩ := List.mem_iff_getElem?.1 hy
    exact (hxs i y hi).1
  · have hp0 := (hxs 0 _ (List.getElem?_eq_getElem (by omega))).2.2
    have hlen := R.cells_len (xs[0]'(by omega))
    have hc0 := hp0 0 _ (List.getElem?_eq_getElem (by omega))
    rw [Nat.zero_mul, Nat.zero_add] at hc0
    obtain ⟨b, off, rfl⟩ := spot_of0 hc0
    refine ⟨b, off, rfl, Nat.zero_le _, ?_, ?_⟩
    · have := World.block_lt_of_cell? _ _ hc0
      rw [add_none] at this
      exact this
    · rw [zip_parts]
      refine cells_of_each R.cells_len (fun i x hx j u hu => ?_)
      have := (hxs i x hx).2.2 j u hu
      rwa [add_none, ← Nat.add_assoc] at this
  · rw [List.getElem?_map] at hx hy
    cases hz : xs[k]? with
    | none => rw [hz] at hx; cases hx
    | some z =>
      rw [hz] at hx hy
      injection hx with hx
      injection hy with hy
      subst hx hy
      exact (hxs k z hz).2.1
end
end Go.Proofs.YtipnalfkpalieaaDoor
