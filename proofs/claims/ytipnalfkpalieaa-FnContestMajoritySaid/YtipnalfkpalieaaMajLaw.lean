/-
  A majority of first preferences, plainly: it wins by all methods.
-/
import Derived.Test.YtipnalfkpalieaaContest
import Derived.Test.YtipnalfkpalieaaPTotal
namespace Go.Proofs.Ytipnalfkpalieaa
open Go.RowKit
set_option linter.unusedVariables false

theorem cAt_bump {cs : List Int} {i : Nat} (c m : Int) (hi : i < cs.length) : cAt (bump cs c m) (i : Int) = if c = (i : Int) then cAt cs (i : Int) + m else cAt cs (i : Int) := by
  unfold bump cAt
  rw [Int.toNat_natCast]
  by_cases h0 : 0 ≤ c
  · rw [if_pos h0]
    by_cases hc : c = (i : Int)
    · subst hc
      rw [if_pos rfl, Int.toNat_natCast, List.getD_eq_getElem?_getD, List.getElem?_set_self hi]
      rfl
    · rw [if_neg hc, List.getD_eq_getElem?_getD, List.getElem?_set_ne (by omega), ← List.getD_eq_getElem?_getD]
  · rw [if_neg h0, if_neg (by omega)]
theorem bFirst_all {n : Nat} {xs : List Int} (h : ∀ z ∈ xs, 0 ≤ z ∧ z < (n : Int)) : bFirst (List.replicate n false) xs = xs.headD (-1) := by
  cases xs with
  | nil => rfl
  | cons c l =>
    have := h c (by simp)
    have e : (List.replicate n false).getD c.toNat true = false := by
      rw [List.getD_eq_getElem?_getD, List.getElem?_replicate, if_pos (by omega)]
      rfl
    rw [bFirst, if_pos e]
    rfl
theorem first_pref {b : List Int} {i y : Nat} (h : b.headD (-1) = (i : Int)) (hne : y ≠ i) : pref b (i : Int) (y : Int) = true := by
  cases b with
  | nil =>
    have h : (-1 : Int) = (i : Int) := h
    omega
  | cons z l =>
    simp at h
    exact pref_first _ (by simp [h]) (by omega)
theorem iSum_foldl (cs : List Int) : ∀ a, cs.foldl (· + ·) a = a + iSum cs := by
  induction cs with
  | nil => intro a; simp [iSum]
  | cons z cs ih =>
    intro a
    have h1 := ih (a + z)
    have h2 := ih (0 + z)
    unfold iSum at *
    rw [List.foldl_cons, List.foldl_cons, h1, h2]
    omega
theorem iSum_cons (z : Int) (cs : List Int) : iSum (z :: cs) = z + iSum cs := by
  have := iSum_foldl cs (0 + z)
  unfold iSum at *
  rw [List.foldl_cons, this]
  omega
theorem iSum_bump (cs : List Int) (c m : Int) (hm : 0 ≤ m) : iSum (bump cs c m) ≤ iSum cs + m := by
  unfold bump
  split
  · have key : ∀ (l : List Int) (k : Nat), iSum (l.set k (l.getD k 0 + m)) ≤ iSum l + m := by
      intro l
      induction l with
      | nil => intro k; simp [iSum]; omega
      | cons z l ih =>
        intro k
        cases k with
        | zero =>
          rw [List.set_cons_zero, iSum_cons, iSum_cons]
          simp
          omega
        | succ k =>
          have := ih k
          rw [List.set_cons_succ, iSum_cons, iSum_cons]
          have e : (z :: l).getD (k + 1) 0 = l.getD k 0 := by simp
          rw [e]
          omega
    exact key cs _
  · omega
theorem iMax_ge {cs : List Int} : ∀ z ∈ cs, z ≤ iMax cs := by
  induction cs using snocInd with
  | nil => intro z hz; cases hz
  | append_singleton l a ih =>
    intro z hz
    rw [iMax_snoc]
    rcases List.mem_append.1 hz with hz | hz
    · have := ih z hz; omega
    · rw [List.mem_singleton.1 hz]; omega
/-- What first preferences say of each pair. -/
theorem maj_facts {n : Nat} : ∀ ps : List Pl, (∀ p ∈ ps, 0 ≤ p.2 ∧ p.2 ≤ 99) → (∀ p ∈ ps, ∀ z ∈ ballotOf p.1, 0 ≤ z ∧ z < (n : Int)) →
    (∀ i j : Nat, i < n → j < n → i ≠ j → cAt (fCounts (List.replicate n false) ps) (i : Int) + cAt (fCounts (List.replicate n false) ps) (j : Int) ≤ sumPl ps) ∧
    (∀ i y : Nat, i < n → y < n → y ≠ i → cAt (fCounts (List.replicate n false) ps) (i : Int) ≤ cnt ps i y) ∧
    (∀ i y : Nat, y ≠ i → cnt ps i y + cnt ps y i ≤ sumPl ps) ∧ iSum (fCounts (List.replicate n false) ps) ≤ sumPl ps := by
  intro ps
  induction ps using snocInd with
  | nil =>
    intro _ _
    have hc : ∀ i : Nat, cAt (fCounts (List.replicate n false) []) (i : Int) = 0 := fun i => by
      unfold cAt fCounts
      rw [List.foldl_nil, Int.toNat_natCast, List.getD_eq_getElem?_getD, List.getElem?_replicate]
      split <;> rfl
    refine ⟨fun i j _ _ _ => by rw [hc, hc]; simp [sumPl], fun i y _ _ _ => by rw [hc]; simp [cnt], fun i y _ => by simp [cnt, sumPl], ?_⟩
    unfold fCounts
    rw [List.foldl_nil]
    have : ∀ k : Nat, iSum (List.replicate k 0) = 0 := fun k => by
      induction k with
      | zero => rfl
      | succ k ih => rw [List.replicate_succ, iSum_cons, ih]; rfl
    rw [this]
    simp [sumPl]
  | append_singleton l p ih =>
    intro hm hb
    obtain ⟨i1, i2, i3, i4⟩ := ih (fun q hq => hm q (by simp [hq])) (fun q hq => hb q (by simp [hq]))
    have hp := hm p (by simp)
    have hbp := hb p (by simp)
    have hf := bFirst_all hbp
    have hl : (fCounts (List.replicate n false) l).length = n := by rw [fCounts_len]; simp
    have hcs : ∀ i : Nat, i < n → cAt (fCounts (List.replicate n false) (l ++ [p])) (i : Int) = if (ballotOf p.1).headD (-1) = (i : Int) then cAt (fCounts (List.replicate n false) l) (i : Int) + p.2 else cAt (fCounts (List.replicate n false) l) (i : Int) := fun i hi => by
      rw [fCounts_snoc, cAt_bump _ _ (by rw [hl]; exact hi), hf]
    refine ⟨fun i j hi hj hij => ?_, fun i y hi hy hyi => ?_, fun i y hyi => ?_, ?_⟩
    · have := i1 i j hi hj hij
      rw [hcs i hi, hcs j hj, sumPl_snoc]
      split <;> split <;> omega
    · have := i2 i y hi hy hyi
      rw [hcs i hi, cnt_snoc]
      by_cases h : (ballotOf p.1).headD (-1) = (i : Int)
      · rw [if_pos h, if_pos (first_pref h hyi)]
        omega
      · rw [if_neg h]
        split <;> omega
    · have := i3 i y hyi
      rw [cnt_snoc, cnt_snoc, sumPl_snoc]
      by_cases h : pref (ballotOf p.1) (i : Int) (y : Int) = true
      · have h2 := pref_asym _ _ _ h
        rw [if_pos h, if_neg (by rw [h2]; simp)]
        omega
      · rw [if_neg h]
        split <;> omega
    · have := iSum_bump (fCounts (List.replicate n false) l) (bFirst (List.replicate n false) (ballotOf p.1)) p.2 hp.1
      rw [fCounts_snoc, sumPl_snoc]
      omega
theorem fit_ballots {ps : List Pl} {n : Nat} (h : fitOK ps (n : Int) = true) : ∀ p ∈ ps, ∀ z ∈ ballotOf p.1, 0 ≤ z ∧ z < (n : Int) := by
  unfold fitOK at h
  rw [Bool.and_eq_true] at h
  exact fun p hp => ((ballotOK_iff _ _).1 (List.all_eq_true.1 h.2 p hp)).2.2
theorem fit_total {ps : List Pl} {n : Int} (h : fitOK ps n = true) : pTotal ps = sumPl ps := by
  unfold fitOK at h
  rw [Bool.and_eq_true, Bool.and_eq_true] at h
  unfold pTotal
  rw [if_pos h.1.2]
theorem maj_best {ps : List Pl} {N i : Nat} {lots : List Int} (h : fitOK ps (N : Int) = true) (hp : lots.Perm (iota N)) (hi : i < N) (hmaj : sumPl ps < 2 * cAt (fCounts (List.replicate N false) ps) (i : Int)) : gBest (fCounts (List.replicate N false) ps) lots = (i : Int) := by
  have hf := maj_facts ps (fit_many h).1 (fit_ballots h)
  have hne : lots ≠ [] := by
    intro e
    rw [e] at hp
    have := hp.length_eq
    rw [iota_len] at this
    simp at this
    omega
  obtain ⟨h1, h2⟩ := gBest_mem (fCounts (List.replicate N false) ps) hne
  have hr := mem_iota.1 (hp.mem_iff.1 h1)
  obtain ⟨j, hj⟩ : ∃ j : Nat, gBest (fCounts (List.replicate N false) ps) lots = (j : Int) := ⟨(gBest (fCounts (List.replicate N false) ps) lots).toNat, by omega⟩
  rw [hj] at h2 hr ⊢
  by_cases hij : j = i
  · rw [hij]
  · have h3 := h2 (i : Int) (hp.mem_iff.2 (mem_iota.2 (by omega)))
    have h4 := hf.1 i j hi (by omega) (fun e => hij e.symm)
    omega
theorem maj_win {ps : List Pl} {N i : Nat} {lots : List Int} (m : Int) (h : fitOK ps (N : Int) = true) (hp : lots.Perm (iota N)) (hi : i < N) (hmaj : sumPl ps < 2 * cAt (fCounts (List.replicate N false) ps) (i : Int)) : winM ps N m lots = (i : Int) := by
  have hb := maj_best h hp hi hmaj
  have hf := maj_facts ps (fit_many h).1 (fit_ballots h)
  have hll : lots.length = N := by rw [hp.length_eq, iota_len]
  have hfl : (fCounts (List.replicate N false) ps).length = N := by rw [fCounts_len]; simp
  unfold winM
  split
  · exact hb
  · split
    · have hdone : rDone (fCounts (List.replicate N false) ps) (List.replicate N false) = true := by
        unfold rDone
        have h1 := iMax_ge (cs := fCounts (List.replicate N false) ps) (cAt (fCounts (List.replicate N false) ps) (i : Int)) (by
          unfold cAt
          rw [Int.toNat_natCast, List.getD_eq_getElem?_getD, List.getElem?_eq_getElem (by rw [hfl]; exact hi)]
          exact List.getElem_mem _)
        rw [decide_eq_true (show iSum (fCounts (List.replicate N false) ps) < 2 * iMax (fCounts (List.replicate N false) ps) by have := hf.2.2.2; omega)]
        rfl
      obtain ⟨f, rfl⟩ : ∃ f, N = f + 1 := ⟨N - 1, by omega⟩
      unfold runW rWin rRounds
      rw [hll, rGo, if_pos hdone]
      exact hb
    · refine pWin_condorcet hp (cnt_nn (fit_many h).1) hi (fun y hy hyi => ?_)
      have h1 := hf.2.1 i y hi hy hyi
      have h2 := hf.2.2.1 i y hyi
      omega
theorem maj_con {ps : List Pl} {N i : Nat} {m s : Int} (hok : conOK ps (N : Int) m s = true) (hi : i < N) (hmaj : sumPl ps < 2 * cAt (fCounts (List.replicate N false) ps) (i : Int)) (m' : Int) (hm : 1 ≤ m' ∧ m' ≤ 3) : cWin ps (N : Int) m' s = (i : Int) := by
  have h := conOK_iff.1 hok
  unfold cWin
  rw [if_pos (conOK_iff.2 ⟨h.1, hm, h.2.2⟩), Int.toNat_natCast]
  exact maj_win m' h.1 (lotsOf_perm _ _) hi hmaj
theorem maj_agree {ps : List Pl} {N i : Nat} {m s : Int} (hok : conOK ps (N : Int) m s = true) (hi : i < N) (hmaj : sumPl ps < 2 * cAt (fCounts (List.replicate N false) ps) (i : Int)) : agreeB ps (N : Int) s = true := by
  unfold agreeB
  rw [maj_con hok hi hmaj 1 (by omega), maj_con hok hi hmaj 2 (by omega), maj_con hok hi hmaj 3 (by omega)]
  simp
end Go.Proofs.Ytipnalfkpalieaa
