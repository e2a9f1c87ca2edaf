/-
  What changes from some piles to others, text by text: in order, and in any order.
-/
import Derived.Test.YtbhchlnbhimcpaaMapLaw
import Derived.Test.YtbhchlnbhimcpaaSumLaw
namespace Go.Proofs.Ytbhchlnbhimcpaa
open Go.RowKit Go.Maps
set_option linter.unusedVariables false

def mx (d : Int) : Int := if d < 0 then -d else d
/-- Each text with what changes. -/
def chgX (ys xs : List Pl) : List Pl := xs.map fun p => (p.1, mx (p.2 - look ys p.1))
def chgY (xs ys : List Pl) : List Pl := ys.filter fun p => look xs p.1 == 0
def chgL (xs ys : List Pl) : List Pl := chgX ys xs ++ chgY xs ys
theorem tot_none {ps : List Pl} {t : ByteArray} (h : t ∉ ps.map (·.1)) : tot ps t = 0 := by
  induction ps with
  | nil => rfl
  | cons p ps ih =>
    rw [tot_cons, ih (fun h1 => h (by rw [List.map_cons]; exact List.mem_cons_of_mem _ h1)), if_neg (fun e => h (by rw [List.map_cons, ← e]; exact List.mem_cons_self))]
    rfl
theorem asc_head {p : Pl} {ps : List Pl} (h : Asc (p :: ps)) : p.1 ∉ ps.map (·.1) := by
  intro hm
  obtain ⟨q, hq, e⟩ := List.mem_map.1 hm
  exact sLt_ne ((List.pairwise_cons.1 h).1 q hq) e.symm
theorem tot_look {ps : List Pl} (h : Asc ps) (t : ByteArray) : tot ps t = look ps t := by
  induction ps with
  | nil => rfl
  | cons p ps ih =>
    rw [tot_cons, ih (List.pairwise_cons.1 h).2]
    by_cases e : p.1 = t
    · subst e
      rw [if_pos rfl, look_none (asc_head h), look_mem h List.mem_cons_self]
      omega
    · rw [if_neg e]
      rw [look, if_neg e]
      omega
theorem asc_texts {ps : List Pl} (h : Asc ps) : ps.Pairwise fun p q => p.1 ≠ q.1 := h.imp fun h1 => sLt_ne h1
/-- Piles that are valid. -/
structure Vld (ps : List Pl) : Prop where
  asc : Asc ps
  val : ∀ p ∈ ps, 1 ≤ p.2 ∧ p.2 ≤ 99
  len : ps.length ≤ 12
theorem Vld.of {ps : List Pl} (h : pilesOK ps = true) : Vld ps := by
  obtain ⟨h1, h2, h3⟩ := (pilesOK_iff ps).1 h
  exact ⟨h2, fun p hp => plOK_many (h1 p hp), h3⟩
theorem Vld.zero {ps : List Pl} (h : Vld ps) {t : ByteArray} (h0 : look ps t = 0) : t ∉ ps.map (·.1) := by
  intro hm
  obtain ⟨q, hq, rfl⟩ := List.mem_map.1 hm
  have := h.val q hq
  rw [look_mem h.asc hq] at h0
  omega
theorem Vld.look {ps : List Pl} (h : Vld ps) (t : ByteArray) : 0 ≤ look ps t ∧ Go.Proofs.Ytbhchlnbhimcpaa.look ps t ≤ 99 := by
  by_cases hm : t ∈ ps.map (·.1)
  · obtain ⟨q, hq, rfl⟩ := List.mem_map.1 hm
    have := h.val q hq
    rw [look_mem h.asc hq]
    omega
  · rw [look_none hm]
    omega
theorem mx_bound {d : Int} (h : -99 ≤ d ∧ d ≤ 99) : 0 ≤ mx d ∧ mx d ≤ 99 := by unfold mx; split <;> omega
theorem chgL_val {xs ys : List Pl} (hx : Vld xs) (hy : Vld ys) : ∀ p ∈ chgL xs ys, 0 ≤ p.2 ∧ p.2 ≤ 99 := by
  intro p hp
  rcases List.mem_append.1 hp with hp | hp
  · obtain ⟨q, hq, rfl⟩ := List.mem_map.1 hp
    have h1 := hx.val q hq
    have h2 := hy.look q.1
    exact mx_bound (by omega)
  · have := hy.val p (List.mem_filter.1 hp).1
    omega
theorem chgL_len {xs ys : List Pl} (hx : Vld xs) (hy : Vld ys) : (chgL xs ys).length ≤ 24 := by
  have h1 := hx.len
  have h2 := hy.len
  have h3 : (chgY xs ys).length ≤ ys.length := List.length_filter_le _ _
  unfold chgL chgX
  rw [List.length_append, List.length_map]
  omega
theorem chgL_texts {xs ys : List Pl} (hx : Vld xs) (hy : Vld ys) : (chgL xs ys).Pairwise fun p q => p.1 ≠ q.1 := by
  unfold chgL chgX chgY
  rw [List.pairwise_append]
  refine ⟨?_, (asc_texts hy.asc).filter _, ?_⟩
  · rw [List.pairwise_map]
    exact asc_texts hx.asc
  · intro a ha b hb e
    obtain ⟨q, hq, rfl⟩ := List.mem_map.1 ha
    have h0 : look xs b.1 = 0 := by simpa using (List.mem_filter.1 hb).2
    exact hx.zero h0 (List.mem_map.2 ⟨q, hq, e⟩)
theorem chgL_mem {xs ys : List Pl} (hx : Vld xs) (hy : Vld ys) {t : ByteArray} (ht : t ∈ xs.map (·.1) ∨ t ∈ ys.map (·.1)) : (t, mx (look xs t - look ys t)) ∈ chgL xs ys := by
  unfold chgL
  by_cases h1 : t ∈ xs.map (·.1)
  · obtain ⟨q, hq, rfl⟩ := List.mem_map.1 h1
    rw [look_mem hx.asc hq]
    exact List.mem_append_left _ (List.mem_map.2 ⟨q, hq, rfl⟩)
  · rcases ht with ht | ht
    · exact absurd ht h1
    · obtain ⟨q, hq, rfl⟩ := List.mem_map.1 ht
      have h0 := look_none h1
      have h2 := hy.val q hq
      refine List.mem_append_right _ (List.mem_filter.2 ⟨?_, by simpa using h0⟩)
      have : mx (look xs q.1 - look ys q.1) = q.2 := by
        rw [h0, look_mem hy.asc hq]
        unfold mx
        split <;> omega
      rw [this]
      exact hq

/-- What has been added when those texts are still to come. -/
def done (L : List Pl) (left : Lit → Bool) : Int := sumPl (L.filter fun p => !left (kS p.1))
theorem done_start {L : List Pl} {left : Lit → Bool} (h : ∀ p ∈ L, left (kS p.1) = true) : done L left = 0 := by
  unfold done
  rw [List.filter_eq_nil_iff.2 (fun p hp => by simp [h p hp])]
  rfl
theorem done_end {L : List Pl} {left : Lit → Bool} (h : ∀ kl, left kl = false) : done L left = sumPl L := by
  unfold done
  rw [List.filter_eq_self.2 (fun p hp => by simp [h])]
theorem done_bound {L : List Pl} (h : ∀ p ∈ L, 0 ≤ p.2 ∧ p.2 ≤ 99) (hl : L.length ≤ 24) (left : Lit → Bool) : 0 ≤ done L left ∧ done L left ≤ 2376 := by
  unfold done
  have h1 := sumPl_nonneg (ps := L.filter fun p => !left (kS p.1)) (fun p hp => (h p (List.mem_filter.1 hp).1).1)
  have h2 := sumPl_le (ps := L.filter fun p => !left (kS p.1)) (fun p hp => (h p (List.mem_filter.1 hp).1).2)
  have h3 : (L.filter fun p => !left (kS p.1)).length ≤ L.length := List.length_filter_le _ _
  omega
theorem same_kS (a b : ByteArray) : (kS a).sameKey (kS b) = decide (a = b) := by
  by_cases h : a = b
  · subst h
    rw [WideAt.sameKey_self (kS_key a)]
    simp
  · rw [sameKey_ne (fun e => h (kS_inj e))]
    simp [h]
theorem done_step {L : List Pl} {left : Lit → Bool} {t : ByteArray} {v : Int} (h : L.Pairwise fun p q => p.1 ≠ q.1) (hm : (t, v) ∈ L) (hl : left (kS t) = true) : done L (fun z => left z && !z.sameKey (kS t)) = done L left + v := by
  unfold done
  simp only [same_kS]
  induction L with
  | nil => cases hm
  | cons p L ih =>
    obtain ⟨h1, h2⟩ := List.pairwise_cons.1 h
    rw [List.filter_cons, List.filter_cons]
    rcases List.mem_cons.1 hm with e | hm
    · subst e
      simp only [hl, decide_true, Bool.not_true, Bool.and_false, Bool.not_false, if_true, Bool.false_eq_true, if_false]
      rw [sumPl_cons]
      have : L.filter (fun p => !(left (kS p.1) && !decide (p.1 = t))) = L.filter fun p => !left (kS p.1) := List.filter_congr (fun q hq => by
        have := h1 q hq
        rw [decide_eq_false (fun e => this e.symm)]
        simp)
      rw [this]
      omega
    · have hne : p.1 ≠ t := h1 _ hm
      have i1 := ih h2 hm
      rw [decide_eq_false hne]
      simp only [Bool.not_false, Bool.and_true]
      split
      · rw [sumPl_cons, sumPl_cons, i1]; omega
      · exact i1
end Go.Proofs.Ytbhchlnbhimcpaa
