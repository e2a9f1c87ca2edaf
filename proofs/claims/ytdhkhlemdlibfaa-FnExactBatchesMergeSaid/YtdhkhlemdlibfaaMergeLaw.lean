/-
  Two returns together: plain Lean.
-/
import Derived.Test.YtdhkhlemdlibfaaBatchDef
import Derived.Test.YtdhkhlemdlibfaaLive
namespace Go.Proofs.Ytdhkhlemdlibfaa
open Go.RowKit
set_option linter.unusedVariables false

/-- Ascending numbers. -/
def AscB (l : List Bt) : Prop := l.Pairwise fun p q => p.1 < q.1
theorem bPre_all {ps : List Bt} : ∀ {k : Nat}, k ≤ ps.length → bPre ps k = true → (∀ p ∈ ps.take k, btOK p = true) ∧ AscB (ps.take k)
  | 0, _, _ => ⟨by simp, by simp [AscB]⟩
  | k + 1, hk, h => by
    have hp : ps[k]? = some ps[k] := List.getElem?_eq_getElem (by omega)
    rw [bPre_step hp, Bool.and_eq_true, Bool.and_eq_true] at h
    obtain ⟨h0, h1, h2⟩ := h
    obtain ⟨i1, i2⟩ := bPre_all (k := k) (by omega) h0
    rw [take_succ_of hp]
    refine ⟨fun p hm => ?_, ?_⟩
    · rcases List.mem_append.1 hm with hm | hm
      · exact i1 p hm
      · rw [List.mem_singleton.1 hm]; exact h1
    · unfold AscB at i2 ⊢
      rw [List.pairwise_append]
      refine ⟨i2, by simp, fun a ha b hb => ?_⟩
      rw [List.mem_singleton.1 hb]
      obtain ⟨j, hj, rfl⟩ := List.mem_iff_getElem.1 ha
      have hjk : j < k := by
        rw [List.length_take] at hj
        omega
      have hk1 : ps[k - 1]? = some ps[k - 1] := List.getElem?_eq_getElem (by omega)
      simp only [bStep, hk1, Bool.or_eq_true, decide_eq_true_eq] at h2
      have h2 : ps[k - 1].1 < ps[k].1 := by
        rcases h2 with h2 | h2
        · omega
        · exact h2
      rcases Nat.lt_or_ge j (k - 1) with hlt | hge
      · rw [List.pairwise_iff_getElem] at i2
        have := i2 j (k - 1) hj (by simp; omega) hlt
        simp only [List.getElem_take] at this ⊢
        omega
      · obtain rfl : j = k - 1 := by omega
        simp only [List.getElem_take]
        exact h2
theorem bPre_of {ps : List Bt} (h : ∀ p ∈ ps, btOK p = true) (ha : AscB ps) : ∀ {k : Nat}, k ≤ ps.length → bPre ps k = true
  | 0, _ => rfl
  | k + 1, hk => by
    have hp : ps[k]? = some ps[k] := List.getElem?_eq_getElem (by omega)
    rw [bPre_step hp, bPre_of h ha (by omega), h _ (List.getElem_mem _)]
    simp only [Bool.true_and, bStep, Bool.or_eq_true, decide_eq_true_eq]
    rcases Nat.eq_zero_or_pos k with h0 | h0
    · exact .inl h0
    · have hk1 : ps[k - 1]? = some ps[k - 1] := List.getElem?_eq_getElem (by omega)
      rw [hk1]
      exact .inr (by
        simp only [decide_eq_true_eq]
        exact (List.pairwise_iff_getElem.1 ha) (k - 1) k (by omega) (by omega) (by omega))
theorem batchesOK_iff (ps : List Bt) : batchesOK ps = true ↔ (∀ p ∈ ps, btOK p = true) ∧ AscB ps ∧ ps.length ≤ 8 := by
  constructor
  · intro h
    unfold batchesOK at h
    rw [Bool.and_eq_true, decide_eq_true_eq] at h
    obtain ⟨h1, h2⟩ := bPre_all (Nat.le_refl _) h.1
    rw [List.take_length] at h1 h2
    exact ⟨h1, h2, h.2⟩
  · rintro ⟨h1, h2, h3⟩
    unfold batchesOK
    rw [bPre_of h1 h2 (Nat.le_refl _), decide_eq_true h3]
    rfl
theorem ascB_cons {p : Bt} {l : List Bt} : AscB (p :: l) ↔ (∀ q ∈ l, p.1 < q.1) ∧ AscB l := List.pairwise_cons
theorem ascB_inj {l : List Bt} (h : AscB l) {x y : Bt} (hx : x ∈ l) (hy : y ∈ l) (e : x.1 = y.1) : x = y := by
  induction l with
  | nil => cases hx
  | cons p l ih =>
    rw [ascB_cons] at h
    rcases List.mem_cons.1 hx with e1 | h1
    · rcases List.mem_cons.1 hy with e2 | h2
      · rw [e1, e2]
      · have := h.1 y h2; rw [← e1] at this; omega
    · rcases List.mem_cons.1 hy with e2 | h2
      · have := h.1 x h1; rw [← e2] at this; omega
      · exact ih h.2 h1 h2
theorem ascB_ext : ∀ {a b : List Bt}, AscB a → AscB b → (∀ x, x ∈ a ↔ x ∈ b) → a = b
  | [], [], _, _, _ => rfl
  | [], q :: b, _, _, h => absurd ((h q).2 (by simp)) (by simp)
  | p :: a, [], _, _, h => absurd ((h p).1 (by simp)) (by simp)
  | p :: a, q :: b, ha, hb, h => by
    rw [ascB_cons] at ha hb
    have hpq : p = q := by
      rcases List.mem_cons.1 ((h p).1 (by simp)) with e | hp
      · exact e
      · rcases List.mem_cons.1 ((h q).2 (by simp)) with e | hq
        · exact e.symm
        · have h1 := hb.1 p hp
          have h2 := ha.1 q hq
          omega
    subst hpq
    rw [ascB_ext ha.2 hb.2 (fun x => ?_)]
    constructor
    · intro hx
      rcases List.mem_cons.1 ((h x).1 (List.mem_cons_of_mem _ hx)) with e | h2
      · subst e; have := ha.1 x hx; omega
      · exact h2
    · intro hx
      rcases List.mem_cons.1 ((h x).2 (List.mem_cons_of_mem _ hx)) with e | h2
      · subst e; have := hb.1 x hx; omega
      · exact h2

/-- One more batch, if its number is new. -/
def insB : List Bt → Bt → List Bt
  | [], x => [x]
  | y :: ys, x => if x.1 < y.1 then x :: y :: ys else if x.1 = y.1 then y :: ys else y :: insB ys x
def mgB (a b : List Bt) : List Bt := b.foldl insB a
/-- How many numbers are smaller. -/
def posB : List Bt → Int → Nat
  | [], _ => 0
  | y :: ys, id => if y.1 < id then posB ys id + 1 else 0
theorem posB_le (l : List Bt) (id : Int) : posB l id ≤ l.length := by
  induction l with
  | nil => exact Nat.le_refl _
  | cons y ys ih => rw [posB]; split <;> simp; omega
theorem posB_below {l : List Bt} {id : Int} {k : Nat} (h : AscB l) (hk : k < posB l id) {y : Bt} (hy : l[k]? = some y) : y.1 < id := by
  induction l generalizing k with
  | nil => simp at hy
  | cons z l ih =>
    rw [ascB_cons] at h
    rw [posB] at hk
    split at hk
    · rename_i hz
      cases k with
      | zero => simp at hy; subst hy; exact hz
      | succ k => exact ih (k := k) h.2 (by omega) (by simpa using hy)
    · omega
theorem posB_above {l : List Bt} {id : Int} {k : Nat} (h : AscB l) (hk : posB l id ≤ k) {y : Bt} (hy : l[k]? = some y) : id ≤ y.1 := by
  induction l generalizing k with
  | nil => simp at hy
  | cons z l ih =>
    rw [ascB_cons] at h
    rw [posB] at hk
    split at hk
    · cases k with
      | zero => omega
      | succ k => exact ih (k := k) h.2 (by omega) (by simpa using hy)
    · rename_i hz
      cases k with
      | zero => simp at hy; subst hy; omega
      | succ k =>
        have := h.1 y (List.mem_of_getElem? (by simpa using hy))
        omega
theorem posB_of {l : List Bt} {id : Int} {k : Nat} (h : AscB l) (hk : k ≤ l.length) (h1 : ∀ j y, j < k → l[j]? = some y → y.1 < id) (h2 : ∀ j y, k ≤ j → l[j]? = some y → id ≤ y.1) : posB l id = k := by
  rcases Nat.lt_trichotomy (posB l id) k with h3 | h3 | h3
  · have hlt : posB l id < l.length := by omega
    have e : l[posB l id]? = some l[posB l id] := List.getElem?_eq_getElem hlt
    have a1 := h1 _ _ h3 e
    have a2 := posB_above h (Nat.le_refl _) e
    omega
  · exact h3
  · have := posB_le l id
    have e : l[k]? = some l[k] := List.getElem?_eq_getElem (by omega)
    have a1 := h2 k _ (Nat.le_refl _) e
    have a2 := posB_below h h3 e
    omega
/-- The number stands there. -/
def knownB (l : List Bt) (id : Int) : Bool := match l[posB l id]? with | some y => decide (y.1 = id) | none => false
theorem insB_known {l : List Bt} {x : Bt} (h : AscB l) (hk : knownB l x.1 = true) : insB l x = l := by
  induction l with
  | nil => simp [knownB, posB] at hk
  | cons y l ih =>
    rw [ascB_cons] at h
    rw [insB]
    unfold knownB at hk
    rw [posB] at hk
    by_cases h1 : y.1 < x.1
    · rw [if_pos h1] at hk
      rw [if_neg (by omega), if_neg (by omega), ih h.2 (by unfold knownB; simpa using hk)]
    · rw [if_neg h1] at hk
      simp at hk
      rw [if_neg (by omega), if_pos hk.symm]
theorem insB_new {l : List Bt} {x : Bt} (h : AscB l) (hk : knownB l x.1 = false) : insB l x = l.take (posB l x.1) ++ x :: l.drop (posB l x.1) := by
  induction l with
  | nil => rfl
  | cons y l ih =>
    rw [ascB_cons] at h
    rw [insB, posB]
    unfold knownB at hk
    rw [posB] at hk
    by_cases h1 : y.1 < x.1
    · rw [if_pos h1] at hk
      rw [if_neg (by omega), if_neg (by omega), if_pos h1, ih h.2 (by unfold knownB; simpa using hk)]
      rfl
    · rw [if_neg h1] at hk
      simp at hk
      rw [if_pos (by omega), if_neg h1]
      rfl
theorem insB_sub {l : List Bt} {x z : Bt} (h : z ∈ insB l x) : z ∈ l ∨ z = x := by
  induction l with
  | nil => exact .inr (List.mem_singleton.1 h)
  | cons y l ih =>
    rw [insB] at h
    split at h
    · rcases List.mem_cons.1 h with h | h
      · exact .inr h
      · exact .inl h
    · split at h
      · exact .inl h
      · rcases List.mem_cons.1 h with h | h
        · exact .inl (by rw [h]; simp)
        · rcases ih h with h | h
          · exact .inl (List.mem_cons_of_mem _ h)
          · exact .inr h
theorem insB_old {l : List Bt} {x z : Bt} (h : z ∈ l) : z ∈ insB l x := by
  induction l with
  | nil => cases h
  | cons y l ih =>
    rw [insB]
    split
    · exact List.mem_cons_of_mem _ h
    · split
      · exact h
      · rcases List.mem_cons.1 h with h | h
        · rw [h]; simp
        · exact List.mem_cons_of_mem _ (ih h)
theorem insB_it {l : List Bt} {x : Bt} (h : ∀ y ∈ l, y.1 ≠ x.1) : x ∈ insB l x := by
  induction l with
  | nil => simp [insB]
  | cons y l ih =>
    rw [insB]
    split
    · simp
    · rw [if_neg (fun e => h y (by simp) e.symm)]
      exact List.mem_cons_of_mem _ (ih (fun z hz => h z (List.mem_cons_of_mem _ hz)))
theorem insB_asc {l : List Bt} {x : Bt} (h : AscB l) : AscB (insB l x) := by
  induction l with
  | nil => simp [insB, AscB]
  | cons y l ih =>
    have h' := ascB_cons.1 h
    rw [insB]
    split
    · rename_i h1
      refine ascB_cons.2 ⟨fun q hq => ?_, h⟩
      rcases List.mem_cons.1 hq with rfl | hq
      · exact h1
      · have := h'.1 q hq; omega
    · split
      · exact h
      · rename_i h1 h2
        refine ascB_cons.2 ⟨fun q hq => ?_, ih h'.2⟩
        rcases insB_sub hq with hq | rfl
        · exact h'.1 q hq
        · omega
theorem insB_len (l : List Bt) (x : Bt) : l.length ≤ (insB l x).length ∧ (insB l x).length ≤ l.length + 1 := by
  induction l with
  | nil => simp [insB]
  | cons y l ih =>
    rw [insB]
    split
    · simp
    · split
      · simp
      · simp only [List.length_cons]; omega
theorem mgB_asc {a b : List Bt} (h : AscB a) : AscB (mgB a b) := by
  unfold mgB
  induction b generalizing a with
  | nil => exact h
  | cons x b ih => exact ih (insB_asc h)
theorem mgB_len (a b : List Bt) : a.length ≤ (mgB a b).length ∧ (mgB a b).length ≤ a.length + b.length := by
  unfold mgB
  induction b generalizing a with
  | nil => simp
  | cons x b ih =>
    have h1 := ih (insB a x)
    have h2 := insB_len a x
    simp only [List.foldl_cons, List.length_cons]
    omega
theorem mgB_old {a b : List Bt} {z : Bt} (h : z ∈ a) : z ∈ mgB a b := by
  unfold mgB
  induction b generalizing a with
  | nil => exact h
  | cons x b ih => exact ih (insB_old h)
theorem mgB_sub {a b : List Bt} {z : Bt} (h : z ∈ mgB a b) : z ∈ a ∨ z ∈ b := by
  unfold mgB at h
  induction b generalizing a with
  | nil => exact .inl h
  | cons x b ih =>
    rcases ih h with h | h
    · rcases insB_sub h with h | h
      · exact .inl h
      · exact .inr (by rw [h]; simp)
    · exact .inr (List.mem_cons_of_mem _ h)
/-- Batches with the same number are the same. -/
def Agree (a b : List Bt) : Prop := ∀ x ∈ a, ∀ y ∈ b, x.1 = y.1 → x = y
def agreeB (a b : List Bt) : Bool := a.all fun x => b.all fun y => decide (x.1 = y.1 → x = y)
theorem agreeB_iff (a b : List Bt) : agreeB a b = true ↔ Agree a b := by
  simp only [agreeB, Agree, List.all_eq_true, decide_eq_true_eq]
theorem mgB_new {a b : List Bt} (hb : AscB b) (hg : Agree a b) {z : Bt} (h : z ∈ b) : z ∈ mgB a b := by
  unfold mgB
  induction b generalizing a with
  | nil => cases h
  | cons x b ih =>
    rw [ascB_cons] at hb
    have hx : x ∈ insB a x := by
      by_cases hm : ∃ y ∈ a, y.1 = x.1
      · obtain ⟨y, hy, e⟩ := hm
        have := hg y hy x (by simp) e
        rw [← this]
        exact insB_old hy
      · exact insB_it (fun y hy e => hm ⟨y, hy, e⟩)
    rcases List.mem_cons.1 h with rfl | h
    · exact mgB_old (b := b) hx
    · refine ih hb.2 (fun u hu y hy e => ?_) h
      rcases insB_sub hu with hu | rfl
      · exact hg u hu y (List.mem_cons_of_mem _ hy) e
      · have := hb.1 y hy; omega
theorem mgB_mem {a b : List Bt} (hb : AscB b) (hg : Agree a b) (z : Bt) : z ∈ mgB a b ↔ z ∈ a ∨ z ∈ b :=
  ⟨mgB_sub, fun h => by rcases h with h | h; exact mgB_old h; exact mgB_new hb hg h⟩
theorem agree_symm {a b : List Bt} (h : Agree a b) : Agree b a := fun x hx y hy e => (h y hy x hx e.symm).symm
theorem mgB_symm {a b : List Bt} (ha : AscB a) (hb : AscB b) (h : Agree a b) : mgB b a = mgB a b :=
  ascB_ext (mgB_asc hb) (mgB_asc ha) (fun z => by rw [mgB_mem ha (agree_symm h), mgB_mem hb h, or_comm])

def bmOK (a b : List Bt) : Bool := batchesOK a && batchesOK b && agreeB a b && batchesOK (mgB a b)
def bmRes (a b : List Bt) : List Bt := if bmOK a b then mgB a b else []
theorem bmOK_iff (a b : List Bt) : bmOK a b = true ↔ batchesOK a = true ∧ batchesOK b = true ∧ Agree a b ∧ (mgB a b).length ≤ 8 := by
  unfold bmOK
  rw [Bool.and_eq_true, Bool.and_eq_true, Bool.and_eq_true, agreeB_iff]
  constructor
  · rintro ⟨⟨⟨h1, h2⟩, h3⟩, h4⟩
    exact ⟨h1, h2, h3, ((batchesOK_iff _).1 h4).2.2⟩
  · rintro ⟨h1, h2, h3, h4⟩
    obtain ⟨a1, a2, _⟩ := (batchesOK_iff a).1 h1
    obtain ⟨b1, b2, _⟩ := (batchesOK_iff b).1 h2
    exact ⟨⟨⟨h1, h2⟩, h3⟩, (batchesOK_iff _).2 ⟨fun p hp => by
      rcases mgB_sub hp with hp | hp
      · exact a1 p hp
      · exact b1 p hp, mgB_asc a2, h4⟩⟩
/-- What a merge that succeeds gives. -/
theorem bm_good {a b : List Bt} (h : bmOK a b = true) : bmRes a b = mgB a b ∧ batchesOK (mgB a b) = true ∧ AscB a ∧ AscB b ∧ Agree a b := by
  refine ⟨by rw [bmRes, if_pos h], ?_, ((batchesOK_iff a).1 ((bmOK_iff a b).1 h).1).2.1, ((batchesOK_iff b).1 ((bmOK_iff a b).1 h).2.1).2.1, ((bmOK_iff a b).1 h).2.2.1⟩
  unfold bmOK at h
  rw [Bool.and_eq_true] at h
  exact h.2
theorem bm_turn {a b : List Bt} (h : bmOK a b = true) : bmOK b a = true ∧ bmRes b a = bmRes a b := by
  obtain ⟨e1, e2, e3, e4, e5⟩ := bm_good h
  obtain ⟨h1, h2, h3, h4⟩ := (bmOK_iff a b).1 h
  have hs := mgB_symm e3 e4 e5
  have ho : bmOK b a = true := (bmOK_iff b a).2 ⟨h2, h1, agree_symm h3, by rw [hs]; exact h4⟩
  exact ⟨ho, by rw [bmRes, if_pos ho, hs, e1]⟩
/-- Merged again: with one of the two. -/
theorem bm_left {a b c : List Bt} (h : bmOK a b = true) (hc : batchesOK c = true) (hs : ∀ x ∈ c, x ∈ mgB a b) : bmOK (mgB a b) c = true ∧ bmRes (mgB a b) c = mgB a b := by
  obtain ⟨e1, e2, e3, e4, e5⟩ := bm_good h
  have hm := mgB_asc (b := b) e3
  have hcA := ((batchesOK_iff c).1 hc).2.1
  have hg : Agree (mgB a b) c := fun x hx y hy e => ascB_inj hm hx (hs y hy) e
  have heq : mgB (mgB a b) c = mgB a b := ascB_ext (mgB_asc hm) hm (fun z => by
    rw [mgB_mem hcA hg]
    exact ⟨fun h => by rcases h with h | h; exact h; exact hs z h, .inl⟩)
  have ho : bmOK (mgB a b) c = true := (bmOK_iff _ _).2 ⟨e2, hc, hg, by rw [heq]; exact ((batchesOK_iff _).1 e2).2.2⟩
  exact ⟨ho, by rw [bmRes, if_pos ho, heq]⟩
theorem batchesOK_sub {l m : List Bt} (h : batchesOK m = true) (hs : l.Sublist m) : batchesOK l = true := by
  obtain ⟨h1, h2, h3⟩ := (batchesOK_iff m).1 h
  exact (batchesOK_iff l).2 ⟨fun p hp => h1 p (hs.subset hp), List.Pairwise.sublist hs h2, Nat.le_trans hs.length_le h3⟩
/-- In two parts. -/
theorem bm_parts {a b : List Bt} (k : Nat) (h : bmOK a b = true) : bmOK a (b.take k) = true ∧ bmOK (mgB a (b.take k)) (b.drop k) = true ∧ bmRes a (b.take k) = mgB a (b.take k) ∧ bmRes (mgB a (b.take k)) (b.drop k) = mgB a b := by
  obtain ⟨h1, h2, h3, h4⟩ := (bmOK_iff a b).1 h
  obtain ⟨e1, e2, e3, e4, e5⟩ := bm_good h
  have hsplit : mgB a b = mgB (mgB a (b.take k)) (b.drop k) := by
    unfold mgB
    rw [← List.foldl_append, List.take_append_drop]
  have hl := mgB_len (mgB a (b.take k)) (b.drop k)
  rw [← hsplit] at hl
  have hot := batchesOK_sub h2 (List.take_sublist k b)
  have hod := batchesOK_sub h2 (List.drop_sublist k b)
  have o1 : bmOK a (b.take k) = true := (bmOK_iff _ _).2 ⟨h1, hot, fun x hx y hy e => h3 x hx y (List.take_subset _ _ hy) e, by omega⟩
  have ho1 := (bm_good o1).2.1
  have hg2 : Agree (mgB a (b.take k)) (b.drop k) := fun x hx y hy e => by
    rcases mgB_sub hx with hx | hx
    · exact h3 x hx y (List.drop_subset _ _ hy) e
    · have hp : (b.take k ++ b.drop k).Pairwise fun p q => p.1 < q.1 := by rw [List.take_append_drop]; exact e4
      have := (List.pairwise_append.1 hp).2.2 x hx y hy
      omega
  have o2 : bmOK (mgB a (b.take k)) (b.drop k) = true := (bmOK_iff _ _).2 ⟨ho1, hod, hg2, by rw [← hsplit]; exact h4⟩
  exact ⟨o1, o2, by rw [bmRes, if_pos o1], by rw [bmRes, if_pos o2, hsplit]⟩
/-- One step of the program's loop: what stands there already, or comes in. -/
theorem mgB_snoc (a b : List Bt) (x : Bt) : mgB a (b ++ [x]) = insB (mgB a b) x := by simp [mgB, List.foldl_append]
end Go.Proofs.Ytdhkhlemdlibfaa
