/-
  Lots, plainly: what lots a seed draws, the first of some, the greatest count, those with the greatest count.
-/
import Derived.Test.YtipnalfkpalieaaDoorParse
namespace Go.Proofs.YtipnalfkpalieaaDoor
open Go.RowKit
set_option linter.unusedVariables false

theorem snocInd {α : Type} {motive : List α → Prop} (nil : motive []) (append_singleton : ∀ l a, motive l → motive (l ++ [a])) (l : List α) : motive l := by
  have key : ∀ t : List α, motive t.reverse := fun t => by
    induction t with
    | nil => exact nil
    | cons a t ih => rw [List.reverse_cons]; exact append_singleton _ _ ih
  rw [← List.reverse_reverse l]
  exact key _
/-- 0, 1, .. n - 1. -/
def iota (n : Nat) : List Int := (List.range n).map (fun (k : Nat) => (k : Int))
theorem iota_len (n : Nat) : (iota n).length = n := by simp [iota]
theorem iota_succ (n : Nat) : iota (n + 1) = iota n ++ [(n : Int)] := by simp [iota, List.range_succ]
theorem iota_at {n k : Nat} (h : k < n) : (iota n)[k]? = some (k : Int) := by simp [iota, h]
theorem mem_iota {n : Nat} {z : Int} : z ∈ iota n ↔ 0 ≤ z ∧ z < n := by
  simp only [iota, List.mem_map, List.mem_range]
  constructor
  · rintro ⟨a, h, rfl⟩; omega
  · rintro ⟨h1, h2⟩; exact ⟨z.toNat, by omega, by omega⟩
theorem iota_nodup (n : Nat) : (iota n).Nodup := by
  unfold iota
  exact List.Pairwise.map _ (fun a b hab e => hab (by omega)) List.nodup_range

/-- One candidate after the other from those that are left. -/
def lotsGo : Nat → List Int → Nat → List Int
  | 0, _, _ => []
  | n + 1, left, seed => left.getD (seed % (n + 1)) 0 :: lotsGo n (left.eraseIdx (seed % (n + 1))) (seed / (n + 1))
theorem lotsGo_perm : ∀ (n : Nat) (left : List Int) (seed : Nat), left.length = n → (lotsGo n left seed).Perm left
  | 0, left, seed, h => by
    rw [List.eq_nil_of_length_eq_zero h]
    exact List.Perm.refl _
  | n + 1, left, seed, h => by
    have hi : seed % (n + 1) < left.length := by rw [h]; exact Nat.mod_lt _ (by omega)
    have h1 : left = left.take (seed % (n + 1)) ++ left.getD (seed % (n + 1)) 0 :: left.drop (seed % (n + 1) + 1) := by
      rw [List.getD_eq_getElem?_getD, List.getElem?_eq_getElem hi, Option.getD_some, ← List.drop_eq_getElem_cons hi, List.take_append_drop]
    have h2 := lotsGo_perm n (left.eraseIdx (seed % (n + 1))) (seed / (n + 1)) (by rw [List.length_eraseIdx, if_pos hi, h]; omega)
    rw [lotsGo]
    refine (List.Perm.cons _ h2).trans ?_
    rw [List.eraseIdx_eq_take_drop_succ]
    refine List.Perm.trans ?_ (List.Perm.of_eq h1.symm)
    exact List.perm_middle.symm
theorem lotsGo_len (n : Nat) (left : List Int) (seed : Nat) (h : left.length = n) : (lotsGo n left seed).length = n := by rw [(lotsGo_perm n left seed h).length_eq, h]
/-- The lots of a seed. -/
def lotsOf (n seed : Nat) : List Int := lotsGo n (iota n) seed
theorem lotsOf_perm (n seed : Nat) : (lotsOf n seed).Perm (iota n) := lotsGo_perm n _ _ (iota_len n)
theorem lotsOf_len (n seed : Nat) : (lotsOf n seed).length = n := lotsGo_len n _ _ (iota_len n)
def lotsOK (n seed : Int) : Bool := inB n 1 5 && inB seed 0 999
def lotsValid (xs : List Int) : Bool := ballotOK xs xs.length
theorem perm_valid {n : Nat} {xs : List Int} (h : xs.Perm (iota n)) (hn : 1 ≤ n ∧ n ≤ 5) : lotsValid xs = true := by
  unfold lotsValid
  rw [ballotOK_iff, h.length_eq, iota_len]
  exact ⟨by omega, h.nodup_iff.2 (iota_nodup n), fun z hz => mem_iota.1 (h.mem_iff.1 hz)⟩
theorem lotsOK_iff (n seed : Int) : lotsOK n seed = true ↔ (1 ≤ n ∧ n ≤ 5) ∧ 0 ≤ seed ∧ seed ≤ 999 := by
  unfold lotsOK inB
  simp

/-- A count. -/
def cAt (cs : List Int) (c : Int) : Int := cs.getD c.toNat 0
def gStep (cs : List Int) (b c : Int) : Int := if cAt cs b < cAt cs c then c else b
/-- The candidate with the greatest count, by lots. -/
def gBest (cs lots : List Int) : Int := lots.foldl (gStep cs) (lots.headD 0)
/-- The first of some in the lots, or -1. -/
def firstOf (lots : List Int) (bs : List Bool) : Int := (lots.find? (fun c => bs.getD c.toNat false)).getD (-1)

theorem best_aux (v : Int → Int) : ∀ (rest l1 : List Int) (b : Int) (l2 : List Int), (∀ d ∈ l1, v d < v b) → (∀ d ∈ l2, v d ≤ v b) →
    (l1 ++ b :: l2 ++ rest).find? (fun c => decide (∀ d ∈ l1 ++ b :: l2 ++ rest, v d ≤ v c)) = some (rest.foldl (fun b c => if v b < v c then c else b) b)
  | [], l1, b, l2, h1, h2 => by
    rw [List.append_nil, List.foldl_nil, List.find?_eq_some_iff_append]
    refine ⟨?_, l1, l2, rfl, fun a ha => ?_⟩
    · rw [decide_eq_true_eq]
      intro d hd
      rcases List.mem_append.1 hd with hd | hd
      · exact Int.le_of_lt (h1 d hd)
      · rcases List.mem_cons.1 hd with rfl | hd
        · exact Int.le_refl _
        · exact h2 d hd
    · simp only [Bool.not_eq_true', decide_eq_false_iff_not]
      intro h
      have := h b (by simp)
      have := h1 a ha
      omega
  | c :: rest, l1, b, l2, h1, h2 => by
    rw [List.foldl_cons]
    by_cases hc : v b < v c
    · rw [if_pos hc]
      have := best_aux v rest (l1 ++ b :: l2) c [] (fun d hd => by
        rcases List.mem_append.1 hd with hd | hd
        · have := h1 d hd; omega
        · rcases List.mem_cons.1 hd with rfl | hd
          · exact hc
          · have := h2 d hd; omega) (by simp)
      rw [show l1 ++ b :: l2 ++ c :: rest = l1 ++ b :: l2 ++ c :: [] ++ rest from by simp]
      exact this
    · rw [if_neg hc]
      have := best_aux v rest l1 b (l2 ++ [c]) h1 (fun d hd => by
        rcases List.mem_append.1 hd with hd | hd
        · exact h2 d hd
        · rw [List.mem_singleton.1 hd]; omega)
      rw [show l1 ++ b :: l2 ++ c :: rest = l1 ++ b :: (l2 ++ [c]) ++ rest from by simp]
      exact this
theorem gBest_find (cs : List Int) {lots : List Int} (h : lots ≠ []) : lots.find? (fun c => decide (∀ d ∈ lots, cAt cs d ≤ cAt cs c)) = some (gBest cs lots) := by
  cases lots with
  | nil => exact absurd rfl h
  | cons a l =>
    have := best_aux (cAt cs) l [] a [] (by simp) (by simp)
    unfold gBest
    rw [List.headD_cons, List.foldl_cons]
    have h0 : gStep cs a a = a := by unfold gStep; rw [if_neg (by omega)]
    rw [h0]
    exact this
theorem gBest_mem (cs : List Int) {lots : List Int} (h : lots ≠ []) : gBest cs lots ∈ lots ∧ ∀ d ∈ lots, cAt cs d ≤ cAt cs (gBest cs lots) := by
  have := gBest_find cs h
  have h1 := List.find?_some this
  exact ⟨List.mem_of_find?_eq_some this, by simpa using h1⟩

/-- The greatest count of some. -/
def mFold (l : List (Int × Bool)) (m : Int) : Int := l.foldl (fun m p => if p.2 then max m p.1 else m) m
theorem mFold_snoc (l : List (Int × Bool)) (p : Int × Bool) (m : Int) : mFold (l ++ [p]) m = if p.2 then max (mFold l m) p.1 else mFold l m := by
  unfold mFold
  rw [List.foldl_append]
  rfl
theorem mFold_spec : ∀ (l : List (Int × Bool)) (m : Int), m ≤ mFold l m ∧ (∀ p ∈ l, p.2 = true → p.1 ≤ mFold l m) ∧ (mFold l m = m ∨ ∃ p ∈ l, p.2 = true ∧ p.1 = mFold l m)
  | [], m => ⟨Int.le_refl _, by simp, .inl rfl⟩
  | p :: l, m => by
    obtain ⟨h1, h2, h3⟩ := mFold_spec l (if p.2 then max m p.1 else m)
    have e : mFold (p :: l) m = mFold l (if p.2 then max m p.1 else m) := rfl
    rw [e]
    have hm : m ≤ (if p.2 then max m p.1 else m) := by split <;> omega
    refine ⟨by omega, fun q hq hq2 => ?_, ?_⟩
    · rcases List.mem_cons.1 hq with rfl | hq
      · rw [if_pos hq2] at h1 ⊢
        exact Int.le_trans (Int.le_max_right m q.1) h1
      · exact h2 q hq hq2
    · rcases h3 with h3 | ⟨q, hq, hq2, h3⟩
      · by_cases hp : p.2 = true
        · rw [if_pos hp] at h3 ⊢
          rcases Int.le_total m p.1 with hle | hle
          · exact .inr ⟨p, by simp, hp, by rw [h3]; omega⟩
          · exact .inl (by rw [h3]; omega)
        · rw [if_neg hp] at h3 ⊢
          exact .inl h3
      · exact .inr ⟨q, List.mem_cons_of_mem _ hq, hq2, h3⟩
def mMax (cs : List Int) (some : List Bool) : Int := mFold (cs.zip some) (-1)
/-- Who has the greatest of some counts. -/
def mostB (cs : List Int) (some : List Bool) : List Bool := (cs.zip some).map (fun p => p.2 && decide (p.1 = mMax cs some))
/-- The counts of some; -1 for the others. -/
def cutB (cs : List Int) (some : List Bool) : List Int := (cs.zip some).map (fun p => if p.2 then p.1 else -1)
theorem find_congr {l : List Int} {p q : Int → Bool} (h : ∀ c ∈ l, p c = q c) : l.find? p = l.find? q := by
  induction l with
  | nil => rfl
  | cons a l ih =>
    rw [List.find?_cons, List.find?_cons, h a (by simp), ih (fun c hc => h c (List.mem_cons_of_mem _ hc))]
theorem most_first {n : Nat} {lots cs : List Int} {bs : List Bool} (hp : lots.Perm (iota n)) (hl : cs.length = n) (hs : bs.length = n) (hnn : ∀ z ∈ cs, 0 ≤ z) (hex : ∃ c : Nat, c < n ∧ bs[c]? = some true) :
    firstOf lots (mostB cs bs) = gBest (cutB cs bs) lots := by
  obtain ⟨c0, hc0, hb0⟩ := hex
  have hne : lots ≠ [] := by
    intro e
    rw [e] at hp
    have := hp.length_eq
    rw [iota_len] at this
    simp at this
    omega
  have hz : ∀ (i : Nat) (z : Int) (b : Bool), (cs.zip bs)[i]? = some (z, b) ↔ cs[i]? = some z ∧ bs[i]? = some b := fun i z b => List.getElem?_zip_eq_some
  have hcut : ∀ (i : Nat) (z : Int) (b : Bool), cs[i]? = some z → bs[i]? = some b → cAt (cutB cs bs) (i : Int) = if b then z else -1 := fun i z b h1 h2 => by
    unfold cAt cutB
    rw [Int.toNat_natCast, List.getD_eq_getElem?_getD, List.getElem?_map, (hz i z b).2 ⟨h1, h2⟩]
    rfl
  have hmo : ∀ (i : Nat) (z : Int) (b : Bool), cs[i]? = some z → bs[i]? = some b → (mostB cs bs).getD i false = (b && decide (z = mMax cs bs)) := fun i z b h1 h2 => by
    unfold mostB
    rw [List.getD_eq_getElem?_getD, List.getElem?_map, (hz i z b).2 ⟨h1, h2⟩]
    rfl
  obtain ⟨s1, s2, s3⟩ := mFold_spec (cs.zip bs) (-1)
  have hM : mFold (cs.zip bs) (-1) = mMax cs bs := rfl
  rw [hM] at s1 s2 s3
  have hat : ∀ i : Nat, i < n → ∃ z b, cs[i]? = some z ∧ bs[i]? = some b := fun i hi => ⟨cs[i]'(by omega), bs[i]'(by omega), List.getElem?_eq_getElem _, List.getElem?_eq_getElem _⟩
  obtain ⟨z0, hz0⟩ : ∃ z, cs[c0]? = some z := ⟨cs[c0]'(by omega), List.getElem?_eq_getElem _⟩
  have hM0 : 0 ≤ mMax cs bs := by
    have := s2 (z0, true) (List.mem_of_getElem? ((hz c0 z0 true).2 ⟨hz0, hb0⟩)) rfl
    have := hnn z0 (List.mem_of_getElem? hz0)
    omega
  obtain ⟨m0, z1, hm1, hm1b, hm2⟩ : ∃ i z, cs[i]? = some z ∧ bs[i]? = some true ∧ z = mMax cs bs := by
    rcases s3 with s3 | ⟨⟨z, b⟩, hq, hq2, s3⟩
    · omega
    · obtain ⟨i, hi⟩ := List.mem_iff_getElem?.1 hq
      have := (hz i z b).1 hi
      have hq2 : b = true := hq2
      subst hq2
      exact ⟨i, z, this.1, this.2, s3⟩
  have hmn : m0 < n := by rw [← hl]; exact (List.getElem?_eq_some_iff.1 hm1).1
  have hcong : ∀ c ∈ lots, (fun c => (mostB cs bs).getD (Int.toNat c) false) c = (fun c => decide (∀ d ∈ lots, cAt (cutB cs bs) d ≤ cAt (cutB cs bs) c)) c := by
    intro c hc
    have hcr := mem_iota.1 (hp.mem_iff.1 hc)
    obtain ⟨i, rfl⟩ : ∃ i : Nat, c = (i : Int) := ⟨c.toNat, by omega⟩
    obtain ⟨z, b, h1, h2⟩ := hat i (by omega)
    show (mostB cs bs).getD ((i : Int)).toNat false = _
    rw [Int.toNat_natCast, hmo i z b h1 h2, Bool.eq_iff_iff, Bool.and_eq_true, decide_eq_true_eq, decide_eq_true_eq]
    constructor
    · rintro ⟨rfl, rfl⟩ d hd
      have hdr := mem_iota.1 (hp.mem_iff.1 hd)
      obtain ⟨j, rfl⟩ : ∃ j : Nat, d = (j : Int) := ⟨d.toNat, by omega⟩
      obtain ⟨y, b', h3, h4⟩ := hat j (by omega)
      rw [hcut i _ _ h1 h2, hcut j y b' h3 h4]
      simp only [if_true]
      cases b' with
      | true => simp only [if_true]; exact s2 (y, true) (List.mem_of_getElem? ((hz j y true).2 ⟨h3, h4⟩)) rfl
      | false => simp; omega
    · intro h
      have := h (m0 : Int) (hp.mem_iff.2 (mem_iota.2 (by omega)))
      rw [hcut i z b h1 h2, hcut m0 z1 true hm1 hm1b] at this
      simp only [if_true] at this
      cases b with
      | false => simp at this; omega
      | true =>
        simp only [if_true] at this
        have h5 := s2 (z, true) (List.mem_of_getElem? ((hz i z true).2 ⟨h1, h2⟩)) rfl
        have h5 : z ≤ mMax cs bs := h5
        exact ⟨rfl, by omega⟩
  unfold firstOf
  rw [find_congr hcong, gBest_find _ hne]
  rfl
theorem cutB_all (cs : List Int) : cutB cs (List.replicate cs.length true) = cs := by
  unfold cutB
  apply List.ext_getElem?
  intro i
  rw [List.getElem?_map]
  cases h : cs[i]? with
  | none =>
    have : (cs.zip (List.replicate cs.length true))[i]? = none := by
      rw [List.getElem?_eq_none_iff] at h ⊢
      simp
      omega
    rw [this]
    rfl
  | some z =>
    have hi : i < cs.length := (List.getElem?_eq_some_iff.1 h).1
    have : (cs.zip (List.replicate cs.length true))[i]? = some (z, true) := by
      rw [List.getElem?_zip_eq_some]
      exact ⟨h, by rw [List.getElem?_replicate, if_pos hi]⟩
    rw [this]
    rfl
theorem plur_first {n : Nat} {lots cs : List Int} (hp : lots.Perm (iota n)) (hl : cs.length = n) (hn : 1 ≤ n) (hnn : ∀ z ∈ cs, 0 ≤ z) : firstOf lots (mostB cs (List.replicate n true)) = gBest cs lots := by
  have := most_first (bs := List.replicate n true) hp hl (by simp) hnn ⟨0, by omega, by rw [List.getElem?_replicate, if_pos (by omega)]⟩
  rw [this]
  subst hl
  rw [cutB_all]
theorem firstOf_mem {lots : List Int} {bs : List Bool} {c : Int} (hc : c ∈ lots) (hb : bs.getD c.toNat false = true) : firstOf lots bs ∈ lots ∧ bs.getD (firstOf lots bs).toNat false = true := by
  unfold firstOf
  cases h : lots.find? (fun c => bs.getD c.toNat false) with
  | none =>
    have := List.find?_eq_none.1 h c hc
    exact absurd hb this
  | some d => exact ⟨List.mem_of_find?_eq_some h, by have := List.find?_some h; simpa using this⟩
theorem firstOf_cons (c : Int) (l : List Int) (bs : List Bool) : firstOf (c :: l) bs = if bs.getD c.toNat false = true then c else firstOf l bs := by
  unfold firstOf
  rw [List.find?_cons]
  cases bs.getD c.toNat false <;> rfl
end Go.Proofs.YtipnalfkpalieaaDoor
