/-
  What is published: plain Lean.
-/
import Derived.Test.YtifmljckmjnpfaaPctGroupT
import Derived.Test.YtifmljckmjnpfaaOwnPush
namespace Go.Proofs.Ytifmljckmjnpfaa
open Go.RowKit
set_option linter.unusedVariables false

theorem pcPre_all {ps : List Pc} : ∀ {k : Nat}, k ≤ ps.length → pcPre ps k = true → (∀ p ∈ ps.take k, pcOK p = true) ∧ (ps.take k).Pairwise (fun p q => p.1 < q.1)
  | 0, _, _ => ⟨by simp, by simp⟩
  | k + 1, hk, h => by
    have hp : ps[k]? = some ps[k] := List.getElem?_eq_getElem (by omega)
    rw [pcPre_step hp, Bool.and_eq_true, Bool.and_eq_true] at h
    obtain ⟨h0, h1, h2⟩ := h
    obtain ⟨i1, i2⟩ := pcPre_all (k := k) (by omega) h0
    rw [take_succ_of hp]
    refine ⟨fun p hm => ?_, ?_⟩
    · rcases List.mem_append.1 hm with hm | hm
      · exact i1 p hm
      · rw [List.mem_singleton.1 hm]; exact h1
    · rw [List.pairwise_append]
      refine ⟨i2, by simp, fun a ha b hb => ?_⟩
      rw [List.mem_singleton.1 hb]
      obtain ⟨j, hj, rfl⟩ := List.mem_iff_getElem.1 ha
      have hjk : j < k := by
        rw [List.length_take] at hj
        omega
      have hk1 : ps[k - 1]? = some ps[k - 1] := List.getElem?_eq_getElem (by omega)
      simp only [pcStep, hk1, Bool.or_eq_true, decide_eq_true_eq] at h2
      have h2 : ps[k - 1].1 < ps[k].1 := by
        rcases h2 with h2 | h2
        · omega
        · exact h2
      rcases Nat.lt_or_ge j (k - 1) with hlt | hge
      · rw [List.pairwise_iff_getElem] at i2
        have := i2 j (k - 1) hj (by simp; omega) hlt
        simp only [List.getElem_take] at this ⊢
        omega
      · obtain rfl : j = k - 1 := by omega
        simp only [List.getElem_take]
        exact h2
theorem pcPre_of {ps : List Pc} (h : ∀ p ∈ ps, pcOK p = true) (ha : ps.Pairwise (fun p q => p.1 < q.1)) : ∀ {k : Nat}, k ≤ ps.length → pcPre ps k = true
  | 0, _ => rfl
  | k + 1, hk => by
    have hp : ps[k]? = some ps[k] := List.getElem?_eq_getElem (by omega)
    rw [pcPre_step hp, pcPre_of h ha (by omega), h _ (List.getElem_mem _)]
    simp only [Bool.true_and, pcStep, Bool.or_eq_true, decide_eq_true_eq]
    rcases Nat.eq_zero_or_pos k with h0 | h0
    · exact .inl h0
    · have hk1 : ps[k - 1]? = some ps[k - 1] := List.getElem?_eq_getElem (by omega)
      rw [hk1]
      exact .inr (by
        simp only [decide_eq_true_eq]
        exact (List.pairwise_iff_getElem.1 ha) (k - 1) k (by omega) (by omega) (by omega))
theorem pctsOK_iff (ps : List Pc) : pctsOK ps = true ↔ (∀ p ∈ ps, pcOK p = true) ∧ ps.Pairwise (fun p q => p.1 < q.1) ∧ ps.length ≤ 6 := by
  constructor
  · intro h
    unfold pctsOK at h
    rw [Bool.and_eq_true, decide_eq_true_eq] at h
    obtain ⟨h1, h2⟩ := pcPre_all (Nat.le_refl _) h.1
    rw [List.take_length] at h1 h2
    exact ⟨h1, h2, h.2⟩
  · rintro ⟨h1, h2, h3⟩
    unfold pctsOK
    rw [pcPre_of h1 h2 (Nat.le_refl _), decide_eq_true h3]
    rfl

/-- A group, published. -/
def pubG (g : List Pc) : Pc := ((g.headD (0, [])).1, canon (pctEs g))
def pubL (bs : List Pc) (least : Int) : List Pc := (pGroups bs least).map pubG
def pubAll (gs : List (List Pc)) : Bool := gs.all fun g => pilesOK (canon (pctEs g))
def pubOK (bs : List Pc) (least : Int) : Bool := groupOK bs least && pubAll (pGroups bs least)
def pubRes (bs : List Pc) (least : Int) : List Pc := if pubOK bs least then pubL bs least else []
theorem groupOK_pcts {bs : List Pc} {least : Int} (h : groupOK bs least = true) : pctsOK bs = true ∧ 1 ≤ least ∧ least ≤ 99 := by
  unfold groupOK at h
  rw [Bool.and_eq_true] at h
  exact ⟨h.1, by simpa [inB] using h.2⟩
theorem pGroups_flat {bs : List Pc} {least : Int} (h : groupOK bs least = true) : (pGroups bs least).flatten = bs ∧ ∀ g ∈ pGroups bs least, g ≠ [] := by
  rw [pGroups, if_pos h]
  exact ⟨groups_flat _ _ _, groups_ne _ _ _⟩
theorem headD_mem {g : List Pc} (h : g ≠ []) : g.headD (0, []) ∈ g := by
  cases g with
  | nil => exact absurd rfl h
  | cons x g => simp
/-- Published precincts are valid if their piles are. -/
theorem pub_valid {bs : List Pc} {least : Int} (h : groupOK bs least = true) : pctsOK (pubL bs least) = pubAll (pGroups bs least) := by
  obtain ⟨h1, h2, h3⟩ := groupOK_pcts h
  obtain ⟨f1, f2⟩ := pGroups_flat h
  obtain ⟨v1, v2, v3⟩ := (pctsOK_iff bs).1 h1
  have hmem : ∀ g ∈ pGroups bs least, ∀ x ∈ g, x ∈ bs := fun g hg x hx => by rw [← f1]; exact List.mem_flatten.2 ⟨g, hg, hx⟩
  have hid : ∀ g ∈ pGroups bs least, inB (pubG g).1 1 99 = true := by
    intro g hg
    have := v1 _ (hmem g hg _ (headD_mem (f2 g hg)))
    unfold pcOK at this
    rw [Bool.and_eq_true] at this
    exact this.1
  have hlen : (pubL bs least).length ≤ 6 := by
    rw [pubL, List.length_map]
    have : ∀ gs : List (List Pc), (∀ g ∈ gs, g ≠ []) → gs.length ≤ gs.flatten.length := by
      intro gs
      induction gs with
      | nil => intro _; exact Nat.le_refl _
      | cons x gs ih =>
        intro h
        have i1 := ih (fun g hg => h g (List.mem_cons_of_mem _ hg))
        have hx := List.length_pos_iff.2 (h x (by simp))
        rw [List.flatten_cons, List.length_append, List.length_cons]
        omega
    have := this _ f2
    rw [f1] at this
    omega
  have hpw : (pubL bs least).Pairwise (fun p q => p.1 < q.1) := by
    rw [← f1, List.pairwise_flatten] at v2
    rw [pubL, List.pairwise_map]
    refine List.Pairwise.imp_of_mem (fun {a b} ha hb hab => ?_) v2.2
    show (a.headD (0, [])).1 < (b.headD (0, [])).1
    exact hab _ (headD_mem (f2 a ha)) _ (headD_mem (f2 b hb))
  rw [Bool.eq_iff_iff, pctsOK_iff, pubAll, List.all_eq_true]
  constructor
  · rintro ⟨a1, _, _⟩ g hg
    have := a1 (pubG g) (List.mem_map.2 ⟨g, hg, rfl⟩)
    unfold pcOK at this
    rw [Bool.and_eq_true] at this
    exact this.2
  · intro ha
    refine ⟨fun p hp => ?_, hpw, hlen⟩
    obtain ⟨g, hg, rfl⟩ := List.mem_map.1 hp
    unfold pcOK
    rw [hid g hg]
    exact ha g hg
/-- A group of places is a run. -/
theorem run_at {α : Type} {L : List (List α)} {xs : List α} {k : Nat} {g : List α} (hf : L.flatten = xs) (h : L[k]? = some g) : ∃ F, F + g.length ≤ xs.length ∧ g = (xs.drop F).take g.length := by
  have h1 : L = L.take k ++ g :: L.drop (k + 1) := by rw [← drop_cons' h, List.take_append_drop]
  have h2 : xs = (L.take k).flatten ++ (g ++ (L.drop (k + 1)).flatten) := by rw [← hf]; conv => lhs; rw [h1]; simp
  refine ⟨(L.take k).flatten.length, ?_, ?_⟩
  · rw [h2]; simp
  · conv => rhs; rw [h2]
    rw [List.drop_left, List.take_left]
theorem giRes_run {bs : List Pc} {least : Int} {k : Nat} {g : Row} (h : (giRes bs least)[k]? = some g) : ∃ F, 0 < g.length ∧ F + g.length ≤ bs.length ∧ (∀ j, j < g.length → g[j]? = some ((F + j : Nat) : Int)) ∧ g.map (pcAt bs) = (bs.drop F).take g.length := by
  obtain ⟨F, h1, h2⟩ := run_at (groups_flat (iWt bs) least (upTo bs.length)) h
  rw [upTo_len] at h1
  have hne := groups_ne (iWt bs) least (upTo bs.length) g (List.mem_of_getElem? h)
  refine ⟨F, List.length_pos_iff.2 hne, h1, fun j hj => ?_, ?_⟩
  · rw [h2, List.getElem?_take, if_pos hj, List.getElem?_drop, upTo_at (by omega)]
  · conv => lhs; rw [h2]
    rw [List.map_take, List.map_drop, upTo_map]
theorem pubL_gi {bs : List Pc} {least : Int} (h : groupOK bs least = true) : pubL bs least = (giRes bs least).map fun g => pubG (g.map (pcAt bs)) := by
  rw [pubL, pGroups, if_pos h, giRes_map, List.map_map]
  rfl
/-- Fresh precincts, and a Bool. -/
def PctsOkRes (xs : List Pc) (ok : Bool) (w : World) (e : Ending) (w' : World) : Prop :=
  ∃ B c hs, e = .returned (.tuple #[.slice B xs.length c, .bool ok]) ∧ w.grownBy w' none ∧ OwnRecs pcRec 66 35 w' w.heap.size w'.heap.size B xs.length c xs hs
end Go.Proofs.Ytifmljckmjnpfaa
