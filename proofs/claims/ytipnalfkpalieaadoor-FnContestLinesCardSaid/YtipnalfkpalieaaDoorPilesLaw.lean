/-
  Piles and what lists of piles come to together: plain Lean, no program is walked here.
-/
import Derived.Test.YtipnalfkpalieaaDoorParse
import Derived.WalkLawsBesides
namespace Go.Proofs.YtipnalfkpalieaaDoor
open Go.RowKit
set_option linter.unusedVariables false

/-- A pile: its text, its number of ballots. -/
abbrev Pl := ByteArray × Int

/-! ### the order of texts -/
def sLt (a b : ByteArray) : Bool := Op.bytesLess a.toList b.toList
theorem bLess_eq : ∀ (x y : List UInt8), Op.bytesLess x y = decide (x < y)
  | [], [] => by simp [Op.bytesLess]
  | _ :: _, [] => by simp [Op.bytesLess]
  | [], _ :: _ => by simp [Op.bytesLess]
  | a :: x, b :: y => by
    rw [Op.bytesLess, bLess_eq x y]
    simp only [List.cons_lt_cons_iff]
    by_cases h1 : a < b <;> by_cases h2 : a = b <;> by_cases h3 : x < y <;> simp [h1, h2, h3]
theorem sLt_iff (a b : ByteArray) : sLt a b = true ↔ a.toList < b.toList := by unfold sLt; rw [bLess_eq]; simp
theorem sLt_irrefl (a : ByteArray) : sLt a a = false := by
  rw [← Bool.not_eq_true, sLt_iff]; exact List.lt_irrefl _
theorem sLt_trans {a b c : ByteArray} (h : sLt a b = true) (k : sLt b c = true) : sLt a c = true := by
  rw [sLt_iff] at *; exact List.lt_trans h k
theorem sLt_asymm {a b : ByteArray} (h : sLt a b = true) : sLt b a = false := by
  rw [← Bool.not_eq_true]
  intro k
  have := sLt_trans h k
  rw [sLt_irrefl] at this
  cases this
theorem sLt_tri {a b : ByteArray} (h : sLt a b = false) (hne : a ≠ b) : sLt b a = true := by
  rw [← Bool.not_eq_true, sLt_iff] at h
  rw [sLt_iff]
  rcases List.le_total a.toList b.toList with h1 | h1
  · exact absurd (List.le_antisymm h1 (List.not_lt.1 h)) (fun e => hne (str_ext e))
  · rcases Decidable.em (b.toList < a.toList) with h2 | h2
    · exact h2
    · exact absurd (List.le_antisymm (List.not_lt.1 h2) h1) (fun e => hne (str_ext e))
theorem sLt_ne {a b : ByteArray} (h : sLt a b = true) : a ≠ b := by
  rintro rfl
  rw [sLt_irrefl] at h
  cases h

/-! ### valid piles -/
def plOK (p : Pl) : Bool := ballotOK (ballotOf p.1) 5 && inB p.2 1 99
def stepOK (ps : List Pl) (k : Nat) (p : Pl) : Bool := decide (k = 0) || (match ps[k - 1]? with | some q => sLt q.1 p.1 | none => false)
/-- The first k piles are valid, their texts ascend. -/
def pPre (ps : List Pl) : Nat → Bool
  | 0 => true
  | k + 1 => pPre ps k && (match ps[k]? with | some p => plOK p && stepOK ps k p | none => false)
def pilesOK (ps : List Pl) : Bool := pPre ps ps.length && decide (ps.length ≤ 12)
theorem pPre_step {ps : List Pl} {k : Nat} {p : Pl} (h : ps[k]? = some p) : pPre ps (k + 1) = (pPre ps k && (plOK p && stepOK ps k p)) := by
  simp only [pPre, h]
theorem pPre_false {ps : List Pl} {k : Nat} (h : pPre ps k = false) : ∀ {m : Nat}, k ≤ m → pPre ps m = false
  | 0, hm => by
    obtain rfl : k = 0 := by omega
    exact h
  | m + 1, hm => by
    rcases Nat.lt_or_ge m k with hlt | hge
    · obtain rfl : k = m + 1 := by omega
      exact h
    · simp only [pPre, pPre_false h hge, Bool.false_and]
theorem piles_bad {ps : List Pl} {k : Nat} {p : Pl} (h : ps[k]? = some p) (hb : (plOK p && stepOK ps k p) = false) : pilesOK ps = false := by
  have hk : k < ps.length := (List.getElem?_eq_some_iff.1 h).1
  have : pPre ps (k + 1) = false := by rw [pPre_step h, hb, Bool.and_false]
  unfold pilesOK
  rw [pPre_false this (by omega), Bool.false_and]

/-- Ascending texts. -/
def Asc (ps : List Pl) : Prop := ps.Pairwise fun p q => sLt p.1 q.1 = true
theorem pPre_all {ps : List Pl} : ∀ {k : Nat}, k ≤ ps.length → pPre ps k = true → (∀ p ∈ ps.take k, plOK p = true) ∧ Asc (ps.take k)
  | 0, _, _ => ⟨by simp, by simp [Asc]⟩
  | k + 1, hk, h => by
    have hp : ps[k]? = some ps[k] := List.getElem?_eq_getElem (by omega)
    rw [pPre_step hp, Bool.and_eq_true, Bool.and_eq_true] at h
    obtain ⟨h0, h1, h2⟩ := h
    obtain ⟨i1, i2⟩ := pPre_all (k := k) (by omega) h0
    rw [take_succ_of hp]
    refine ⟨fun p hm => ?_, ?_⟩
    · rcases List.mem_append.1 hm with hm | hm
      · exact i1 p hm
      · rw [List.mem_singleton.1 hm]; exact h1
    · unfold Asc at i2 ⊢
      rw [List.pairwise_append]
      refine ⟨i2, by simp, fun a ha b hb => ?_⟩
      rw [List.mem_singleton.1 hb]
      obtain ⟨j, hj, rfl⟩ := List.mem_iff_getElem.1 ha
      have hjk : j < k := by
        rw [List.length_take] at hj
        omega
      have hk1 : ps[k - 1]? = some ps[k - 1] := List.getElem?_eq_getElem (by omega)
      simp only [stepOK, hk1, Bool.or_eq_true, decide_eq_true_eq] at h2
      have h2 : sLt ps[k - 1].1 ps[k].1 = true := by
        rcases h2 with h2 | h2
        · omega
        · exact h2
      rcases Nat.lt_or_ge j (k - 1) with hlt | hge
      · rw [List.pairwise_iff_getElem] at i2
        have := i2 j (k - 1) hj (by simp; omega) hlt
        simp only [List.getElem_take] at this ⊢
        exact sLt_trans this h2
      · obtain rfl : j = k - 1 := by omega
        simp only [List.getElem_take]
        exact h2
theorem pPre_of {ps : List Pl} (h : ∀ p ∈ ps, plOK p = true) (ha : Asc ps) : ∀ {k : Nat}, k ≤ ps.length → pPre ps k = true
  | 0, _ => rfl
  | k + 1, hk => by
    have hp : ps[k]? = some ps[k] := List.getElem?_eq_getElem (by omega)
    rw [pPre_step hp, pPre_of h ha (by omega), h _ (List.getElem_mem _)]
    simp only [Bool.true_and, stepOK, Bool.or_eq_true, decide_eq_true_eq]
    rcases Nat.eq_zero_or_pos k with h0 | h0
    · exact .inl h0
    · have hk1 : ps[k - 1]? = some ps[k - 1] := List.getElem?_eq_getElem (by omega)
      rw [hk1]
      exact .inr ((List.pairwise_iff_getElem.1 ha) (k - 1) k (by omega) (by omega) (by omega))
theorem pilesOK_iff (ps : List Pl) : pilesOK ps = true ↔ (∀ p ∈ ps, plOK p = true) ∧ Asc ps ∧ ps.length ≤ 12 := by
  constructor
  · intro h
    unfold pilesOK at h
    rw [Bool.and_eq_true, decide_eq_true_eq] at h
    obtain ⟨h1, h2⟩ := pPre_all (Nat.le_refl _) h.1
    rw [List.take_length] at h1 h2
    exact ⟨h1, h2, h.2⟩
  · rintro ⟨h1, h2, h3⟩
    unfold pilesOK
    rw [pPre_of h1 h2 (Nat.le_refl _), decide_eq_true h3]
    rfl
theorem plOK_many {p : Pl} (h : plOK p = true) : 1 ≤ p.2 ∧ p.2 ≤ 99 := by
  unfold plOK at h
  rw [Bool.and_eq_true] at h
  simpa [inB] using h.2

/-! ### what many piles come to together -/
def put : List Pl → ByteArray → Int → List Pl
  | [], t, m => [(t, m)]
  | p :: ps, t, m => if sLt p.1 t then p :: put ps t m else if p.1 = t then (t, IntKind.i64.wrap (p.2 + m)) :: ps else (t, m) :: p :: ps
def canonFrom (ps es : List Pl) : List Pl := es.foldl (fun ps e => put ps e.1 e.2) ps
def canon (es : List Pl) : List Pl := canonFrom [] es
/-- All ballots of a text. -/
def tot (es : List Pl) (t : ByteArray) : Int := ((es.filter fun e => decide (e.1 = t)).map (·.2)).sum
theorem tot_nil (t : ByteArray) : tot [] t = 0 := rfl
theorem tot_cons (e : Pl) (es : List Pl) (t : ByteArray) : tot (e :: es) t = (if e.1 = t then e.2 else 0) + tot es t := by
  unfold tot
  by_cases h : e.1 = t <;> simp [h]
theorem tot_append (a b : List Pl) (t : ByteArray) : tot (a ++ b) t = tot a t + tot b t := by
  unfold tot
  rw [List.filter_append, List.map_append, List.sum_append]
theorem put_length (ps : List Pl) (t : ByteArray) (m : Int) : (put ps t m).length ≤ ps.length + 1 := by
  induction ps with
  | nil => simp [put]
  | cons p ps ih =>
    rw [put]
    split
    · simp only [List.length_cons]; omega
    · split <;> simp
theorem put_texts (ps : List Pl) (t : ByteArray) (m : Int) (u : ByteArray) : u ∈ (put ps t m).map (·.1) ↔ u = t ∨ u ∈ ps.map (·.1) := by
  induction ps with
  | nil => simp [put]
  | cons p ps ih =>
    rw [put]
    split
    · simp only [List.map_cons, List.mem_cons, ih]
      constructor
      · rintro (h | h | h)
        · exact .inr (.inl h)
        · exact .inl h
        · exact .inr (.inr h)
      · rintro (h | h | h)
        · exact .inr (.inl h)
        · exact .inl h
        · exact .inr (.inr h)
    · split
      · rename_i h1 h2
        subst h2
        simp
      · simp
theorem put_head {ps : List Pl} {t : ByteArray} {m : Int} {a : ByteArray} (h : ∀ p ∈ ps, sLt a p.1 = true) (hat : sLt a t = true) : ∀ p ∈ put ps t m, sLt a p.1 = true := by
  intro p hp
  have : p.1 ∈ (put ps t m).map (·.1) := List.mem_map.2 ⟨p, hp, rfl⟩
  rw [put_texts] at this
  rcases this with h1 | h1
  · rw [h1]; exact hat
  · obtain ⟨q, hq, h2⟩ := List.mem_map.1 h1
    rw [← h2]; exact h q hq
theorem put_asc {ps : List Pl} {t : ByteArray} {m : Int} (h : Asc ps) : Asc (put ps t m) := by
  unfold Asc at *
  induction ps with
  | nil => simp [put]
  | cons p ps ih =>
    rw [List.pairwise_cons] at h
    rw [put]
    split
    · rename_i h1
      exact List.pairwise_cons.2 ⟨put_head h.1 h1, ih h.2⟩
    · rename_i h1
      have h1 : sLt p.1 t = false := by simpa using h1
      split
      · rename_i h2
        subst h2
        exact List.pairwise_cons.2 ⟨h.1, h.2⟩
      · rename_i h2
        have h3 := sLt_tri h1 h2
        refine List.pairwise_cons.2 ⟨fun q hq => ?_, List.pairwise_cons.2 h⟩
        rcases List.mem_cons.1 hq with rfl | hq
        · exact h3
        · exact sLt_trans h3 (h.1 q hq)
/-- Ballots of a text of a list whose texts differ. -/
def look : List Pl → ByteArray → Int
  | [], _ => 0
  | p :: ps, t => if p.1 = t then p.2 else look ps t
theorem look_none {ps : List Pl} {t : ByteArray} (h : t ∉ ps.map (·.1)) : look ps t = 0 := by
  induction ps with
  | nil => rfl
  | cons p ps ih =>
    simp only [List.map_cons, List.mem_cons, not_or] at h
    rw [look, if_neg (fun e => h.1 e.symm), ih h.2]
theorem look_mem {ps : List Pl} (h : Asc ps) {p : Pl} (hp : p ∈ ps) : look ps p.1 = p.2 := by
  unfold Asc at h
  induction ps with
  | nil => cases hp
  | cons q ps ih =>
    rw [List.pairwise_cons] at h
    rw [look]
    rcases List.mem_cons.1 hp with rfl | hp
    · rw [if_pos rfl]
    · rw [if_neg (sLt_ne (h.1 p hp)), ih h.2 hp]
theorem put_look {ps : List Pl} {t : ByteArray} {m : Int} (h : Asc ps) (u : ByteArray) (hb : IntKind.i64.wrap (look ps t + m) = look ps t + m) : look (put ps t m) u = look ps u + (if u = t then m else 0) := by
  unfold Asc at h
  induction ps with
  | nil =>
    by_cases hu : u = t
    · subst hu; simp [put, look]
    · rw [put, look, look, if_neg (fun e => hu e.symm), if_neg hu]; rfl
  | cons p ps ih =>
    rw [List.pairwise_cons] at h
    rw [put]
    split
    · rename_i h1
      have hpt := sLt_ne h1
      rw [look, look, if_neg hpt] at *
      by_cases hu : p.1 = u
      · rw [if_pos hu, if_pos hu, if_neg (fun e => hpt (hu.trans e))]
        omega
      · rw [if_neg hu, if_neg hu]
        exact ih h.2 hb
    · rename_i h1
      have h1 : sLt p.1 t = false := by simpa using h1
      split
      · rename_i h2
        subst h2
        rw [look, if_pos rfl] at hb
        rw [look, look]
        by_cases hu : p.1 = u
        · rw [if_pos hu, if_pos hu, if_pos hu.symm, hb]
        · rw [if_neg hu, if_neg hu, if_neg (fun e => hu e.symm)]
          omega
      · rename_i h2
        have h3 := sLt_tri h1 h2
        rw [look]
        by_cases hu : t = u
        · subst hu
          rw [if_pos rfl, if_pos rfl]
          have : t ∉ (p :: ps).map (·.1) := by
            intro hm
            obtain ⟨q, hq, h4⟩ := List.mem_map.1 hm
            rcases List.mem_cons.1 hq with rfl | hq
            · exact h2 h4
            · exact sLt_ne (sLt_trans h3 (h.1 q hq)) h4.symm
          rw [look_none this]
          omega
        · rw [if_neg hu, if_neg (fun e => hu e.symm)]
          omega
/-- Two ascending lists with the same texts, the same ballots of each. -/
theorem asc_ext {a b : List Pl} (ha : Asc a) (hb : Asc b) (ht : ∀ t, t ∈ a.map (·.1) ↔ t ∈ b.map (·.1)) (hl : ∀ t, look a t = look b t) : a = b := by
  induction a generalizing b with
  | nil =>
    cases b with
    | nil => rfl
    | cons q b => exact absurd ((ht q.1).2 (by simp)) (by simp)
  | cons p a ih =>
    cases b with
    | nil => exact absurd ((ht p.1).1 (by simp)) (by simp)
    | cons q b =>
      unfold Asc at ha hb
      rw [List.pairwise_cons] at ha hb
      have hpq : p.1 = q.1 := by
        have h1 : p.1 ∈ (q :: b).map (·.1) := (ht _).1 (by simp)
        have h2 : q.1 ∈ (p :: a).map (·.1) := (ht _).2 (by simp)
        obtain ⟨x, hx, e1⟩ := List.mem_map.1 h1
        obtain ⟨y, hy, e2⟩ := List.mem_map.1 h2
        rcases List.mem_cons.1 hx with rfl | hx
        · exact e1.symm
        · rcases List.mem_cons.1 hy with rfl | hy
          · exact e2
          · have h3 := hb.1 x hx
            have h4 := ha.1 y hy
            rw [e1] at h3
            rw [e2] at h4
            rw [sLt_asymm h3] at h4
            cases h4
      have hv : p.2 = q.2 := by
        have := hl p.1
        rw [look, look, if_pos rfl, if_pos hpq.symm] at this
        exact this
      have hn : ∀ {c : List Pl} {z : Pl}, (∀ x ∈ c, sLt z.1 x.1 = true) → z.1 ∉ c.map (·.1) := by
        intro c z hz hm
        obtain ⟨x, hx, e⟩ := List.mem_map.1 hm
        exact sLt_ne (hz x hx) e.symm
      have hna := hn ha.1
      have hnb := hn hb.1
      have : a = b := by
        refine ih ha.2 hb.2 (fun t => ?_) (fun t => ?_)
        · have := ht t
          simp only [List.map_cons, List.mem_cons, ← hpq] at this
          constructor
          · intro h
            rcases this.1 (.inr h) with e | e
            · subst e; exact absurd h hna
            · exact e
          · intro h
            rcases this.2 (.inr h) with e | e
            · subst e; rw [hpq] at h; exact absurd h hnb
            · exact e
        · by_cases e : p.1 = t
          · subst e
            rw [look_none hna, look_none (by rw [hpq]; exact hnb)]
          · have := hl t
            rwa [look, look, if_neg e, if_neg (fun e' => e (hpq.trans e'))] at this
      subst this
      congr 1
      exact Prod.ext hpq hv

theorem canonFrom_nil (ps : List Pl) : canonFrom ps [] = ps := rfl
theorem canonFrom_cons (ps : List Pl) (e : Pl) (es : List Pl) : canonFrom ps (e :: es) = canonFrom (put ps e.1 e.2) es := rfl
theorem canonFrom_append (ps es fs : List Pl) : canonFrom ps (es ++ fs) = canonFrom (canonFrom ps es) fs := List.foldl_append
theorem canonFrom_asc {ps : List Pl} (h : Asc ps) (es : List Pl) : Asc (canonFrom ps es) := by
  induction es generalizing ps with
  | nil => exact h
  | cons e es ih => exact ih (put_asc h)
theorem canonFrom_texts (ps es : List Pl) (t : ByteArray) : t ∈ (canonFrom ps es).map (·.1) ↔ t ∈ ps.map (·.1) ∨ t ∈ es.map (·.1) := by
  induction es generalizing ps with
  | nil => simp [canonFrom_nil]
  | cons e es ih =>
    rw [canonFrom_cons, ih, put_texts]
    simp only [List.map_cons, List.mem_cons]
    constructor
    · rintro ((h | h) | h)
      · exact .inr (.inl h)
      · exact .inl h
      · exact .inr (.inr h)
    · rintro (h | h | h)
      · exact .inl (.inr h)
      · exact .inl (.inl h)
      · exact .inr h
theorem canonFrom_look {ps : List Pl} (h : Asc ps) (es : List Pl) (b : Int) (hb : ∀ t, 0 ≤ look ps t ∧ look ps t ≤ b) (he : ∀ e ∈ es, 0 ≤ e.2 ∧ e.2 ≤ 99) (hs : b + 99 * es.length ≤ 1000000000000) (t : ByteArray) :
    look (canonFrom ps es) t = look ps t + tot es t := by
  induction es generalizing ps b with
  | nil => rw [canonFrom_nil, tot_nil]; omega
  | cons e es ih =>
    have h1 := he e (by simp)
    have h2 := hb e.1
    simp only [List.length_cons] at hs
    have hw : IntKind.i64.wrap (look ps e.1 + e.2) = look ps e.1 + e.2 := IntWalk.i64_in _ (by omega)
    have hp := put_look (t := e.1) (m := e.2) h
    rw [canonFrom_cons, ih (put_asc h) (b + 99) (fun u => ?_) (fun x hx => he x (List.mem_cons_of_mem _ hx)) (by omega), hp t hw, tot_cons]
    · by_cases e' : t = e.1
      · rw [if_pos e', if_pos e'.symm]; omega
      · rw [if_neg e', if_neg (fun x => e' x.symm)]; omega
    · rw [hp u hw]
      have := hb u
      by_cases e' : u = e.1
      · rw [if_pos e']; omega
      · rw [if_neg e']; omega
/-- Ballots that may be added without a loss. -/
def Small (es : List Pl) : Prop := (∀ e ∈ es, 0 ≤ e.2 ∧ e.2 ≤ 99) ∧ es.length ≤ 1000000000
theorem canon_asc (es : List Pl) : Asc (canon es) := canonFrom_asc (by simp [Asc]) es
theorem canon_texts (es : List Pl) (t : ByteArray) : t ∈ (canon es).map (·.1) ↔ t ∈ es.map (·.1) := by
  unfold canon; rw [canonFrom_texts]; simp
theorem canon_look {es : List Pl} (h : Small es) (t : ByteArray) : look (canon es) t = tot es t := by
  unfold canon
  rw [canonFrom_look (by simp [Asc]) es 0 (fun t => by simp [look]) h.1 (by have := h.2; omega)]
  simp [look]
theorem canon_unique {es L : List Pl} (h : Small es) (ha : Asc L) (ht : ∀ t, t ∈ L.map (·.1) ↔ t ∈ es.map (·.1)) (hl : ∀ p ∈ L, p.2 = tot es p.1) : L = canon es := by
  refine asc_ext ha (canon_asc es) (fun t => by rw [ht, canon_texts]) (fun t => ?_)
  rw [canon_look h]
  by_cases hm : t ∈ L.map (·.1)
  · obtain ⟨p, hp, rfl⟩ := List.mem_map.1 hm
    rw [look_mem ha hp, hl p hp]
  · rw [look_none hm]
    rw [ht] at hm
    unfold tot
    rw [List.filter_eq_nil_iff.2 (fun e he => by simp; rintro rfl; exact hm (List.mem_map.2 ⟨e, he, rfl⟩))]
    rfl
end Go.Proofs.YtipnalfkpalieaaDoor
