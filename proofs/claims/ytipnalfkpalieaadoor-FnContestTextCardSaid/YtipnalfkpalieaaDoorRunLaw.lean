/-
  Runoffs, plainly: when a round is the last one, who leaves, the rounds, the winner.
-/
import Derived.Test.YtipnalfkpalieaaDoorLotsLaw
import Derived.Test.YtipnalfkpalieaaDoorFirst
namespace Go.Proofs.YtipnalfkpalieaaDoor
open Go.RowKit
set_option linter.unusedVariables false

theorem fCounts_nn {left : List Bool} {ps : List Pl} (h : ∀ p ∈ ps, 0 ≤ p.2 ∧ p.2 ≤ 99) : ∀ z ∈ fCounts left ps, 0 ≤ z ∧ z ≤ 99 * (ps.length : Int) := by
  unfold fCounts
  have key : ∀ (ps : List Pl) (cs : List Int) (M : Int), 0 ≤ M → (∀ p ∈ ps, 0 ≤ p.2 ∧ p.2 ≤ 99) → (∀ z ∈ cs, 0 ≤ z ∧ z ≤ M) → ∀ z ∈ ps.foldl (fun cs p => bump cs (bFirst left (ballotOf p.1)) p.2) cs, 0 ≤ z ∧ z ≤ M + 99 * (ps.length : Int) := by
    intro ps
    induction ps with
    | nil => intro cs M hM _ hcs z hz; have := hcs z hz; simp; exact this
    | cons p ps ih =>
      intro cs M hM hps hcs z hz
      have := ih (bump cs (bFirst left (ballotOf p.1)) p.2) (M + 99) (by omega) (fun q hq => hps q (List.mem_cons_of_mem _ hq)) (bump_bound hcs hM (hps p (by simp))) z hz
      rw [List.length_cons]
      omega
  intro z hz
  have := key ps _ 0 (by omega) h (fun z hz => by have := (List.mem_replicate.1 hz).2; omega) z hz
  omega
theorem fit_many {ps : List Pl} {n : Int} (h : fitOK ps n = true) : (∀ p ∈ ps, 0 ≤ p.2 ∧ p.2 ≤ 99) ∧ ps.length ≤ 12 ∧ 1 ≤ n ∧ n ≤ 5 := by
  unfold fitOK at h
  rw [Bool.and_eq_true, Bool.and_eq_true] at h
  have hn : 1 ≤ n ∧ n ≤ 5 := by simpa [inB] using h.1.1
  refine ⟨fun p hp => ?_, ((pilesOK_iff ps).1 h.1.2).2.2, hn⟩
  have : 1 ≤ p.2 ∧ p.2 ≤ 99 := plOK_many (((pilesOK_iff ps).1 h.1.2).1 p hp)
  omega

def iSum (cs : List Int) : Int := cs.foldl (· + ·) 0
def iMax (cs : List Int) : Int := cs.foldl max 0
theorem iSum_snoc (cs : List Int) (z : Int) : iSum (cs ++ [z]) = iSum cs + z := by simp [iSum]
theorem iMax_snoc (cs : List Int) (z : Int) : iMax (cs ++ [z]) = max (iMax cs) z := by simp [iMax]
/-- A candidate has more than half of all counts, or only one is left. -/
def rDone (cs : List Int) (left : List Bool) : Bool := decide (iSum cs < 2 * iMax cs) || decide (left.count false = 1)
def rStep (cs : List Int) (left : List Bool) (o c : Int) : Int := if left.getD c.toNat true = false ∧ (o < 0 ∨ cAt cs c ≤ cAt cs o) then c else o
/-- Who leaves. -/
def rOut (cs : List Int) (left : List Bool) (lots : List Int) : Int := lots.foldl (rStep cs left) (-1)
abbrev Rnd := List Int × Int
def rGo (ps : List Pl) (lots : List Int) : Nat → List Bool → List Rnd
  | 0, _ => []
  | f + 1, left => if rDone (fCounts left ps) left then [(fCounts left ps, -1)] else
      (fCounts left ps, rOut (fCounts left ps) left lots) :: rGo ps lots f (left.set (rOut (fCounts left ps) left lots).toNat true)
/-- The rounds of a runoff. -/
def rRounds (ps : List Pl) (lots : List Int) : List Rnd := rGo ps lots lots.length (List.replicate lots.length false)

/-- Stays: candidate c has not left. -/
def stays (left : List Bool) (c : Int) : Prop := left.getD c.toNat true = false
theorem stays_at {left : List Bool} {c : Int} (h : stays left c) : left[c.toNat]? = some false := by
  unfold stays at h
  rw [List.getD_eq_getElem?_getD] at h
  cases e : left[c.toNat]? with
  | none => rw [e] at h; cases h
  | some b => rw [e] at h; simp at h; rw [h]
theorem count_stays {left : List Bool} (h : 1 ≤ left.count false) : ∃ k : Nat, k < left.length ∧ left[k]? = some false := by
  have := List.count_pos_iff.1 (show 0 < left.count false by omega)
  obtain ⟨k, hk⟩ := List.mem_iff_getElem?.1 this
  exact ⟨k, (List.getElem?_eq_some_iff.1 hk).1, hk⟩
theorem rOut_pre {cs : List Int} {left : List Bool} : ∀ (l : List Int), (∀ c ∈ l, 0 ≤ c) → (l.foldl (rStep cs left) (-1) = -1 ∧ ∀ c ∈ l, ¬ stays left c) ∨ (l.foldl (rStep cs left) (-1) ∈ l ∧ stays left (l.foldl (rStep cs left) (-1)) ∧ ∀ c ∈ l, stays left c → cAt cs (l.foldl (rStep cs left) (-1)) ≤ cAt cs c) := by
  intro l
  induction l using snocInd with
  | nil => intro _; exact .inl ⟨rfl, by simp⟩
  | append_singleton l c ih =>
    intro h0
    have ih := ih (fun d hd => h0 d (by simp [hd]))
    rw [List.foldl_append, List.foldl_cons, List.foldl_nil]
    obtain ⟨o, ho⟩ : ∃ o, l.foldl (rStep cs left) (-1) = o := ⟨_, rfl⟩
    rw [ho] at ih ⊢
    by_cases hs : stays left c
    · rcases ih with ⟨rfl, h2⟩ | ⟨h1, h2, h3⟩
      · have e : rStep cs left (-1) c = c := by unfold rStep; rw [if_pos ⟨hs, .inl (by omega)⟩]
        rw [e]
        refine .inr ⟨by simp, hs, fun d hd hsd => ?_⟩
        rcases List.mem_append.1 hd with hd | hd
        · exact absurd hsd (h2 d hd)
        · rw [List.mem_singleton.1 hd]; exact Int.le_refl _
      · have ho0 : 0 ≤ o := h0 o (by simp [h1])
        by_cases hle : cAt cs c ≤ cAt cs o
        · have e : rStep cs left o c = c := by unfold rStep; rw [if_pos ⟨hs, .inr hle⟩]
          rw [e]
          refine .inr ⟨by simp, hs, fun d hd hsd => ?_⟩
          rcases List.mem_append.1 hd with hd | hd
          · have := h3 d hd hsd; omega
          · rw [List.mem_singleton.1 hd]; exact Int.le_refl _
        · have e : rStep cs left o c = o := by unfold rStep; rw [if_neg (by rintro ⟨_, h | h⟩; omega; exact hle h)]
          rw [e]
          refine .inr ⟨by simp [h1], h2, fun d hd hsd => ?_⟩
          rcases List.mem_append.1 hd with hd | hd
          · exact h3 d hd hsd
          · rw [List.mem_singleton.1 hd]; omega
    · have e : rStep cs left o c = o := by unfold rStep; rw [if_neg (by rintro ⟨h, _⟩; exact hs h)]
      rw [e]
      rcases ih with ⟨h1, h2⟩ | ⟨h1, h2, h3⟩
      · refine .inl ⟨h1, fun d hd => ?_⟩
        rcases List.mem_append.1 hd with hd | hd
        · exact h2 d hd
        · rw [List.mem_singleton.1 hd]; exact hs
      · refine .inr ⟨by simp [h1], h2, fun d hd hsd => ?_⟩
        rcases List.mem_append.1 hd with hd | hd
        · exact h3 d hd hsd
        · rw [List.mem_singleton.1 hd] at hsd; exact absurd hsd hs
theorem rOut_spec {n : Nat} {cs : List Int} {left : List Bool} {lots : List Int} (hp : lots.Perm (iota n)) (hl : left.length = n) (hc : 1 ≤ left.count false) :
    rOut cs left lots ∈ lots ∧ stays left (rOut cs left lots) ∧ ∀ c ∈ lots, stays left c → cAt cs (rOut cs left lots) ≤ cAt cs c := by
  rcases rOut_pre (cs := cs) (left := left) lots (fun c hc => (mem_iota.1 (hp.mem_iff.1 hc)).1) with ⟨h1, h2⟩ | h
  · obtain ⟨k, hk, hs⟩ := count_stays hc
    refine absurd ?_ (h2 (k : Int) (hp.mem_iff.2 (mem_iota.2 (by omega))))
    unfold stays
    rw [Int.toNat_natCast, List.getD_eq_getElem?_getD, hs]
    rfl
  · exact h
theorem count_set {left : List Bool} {k : Nat} (h : left[k]? = some false) : (left.set k true).count false + 1 = left.count false := by
  induction left generalizing k with
  | nil => simp at h
  | cons b l ih =>
    cases k with
    | zero => simp at h; subst h; simp
    | succ k =>
      have := ih (k := k) (by simpa using h)
      rw [List.set_cons_succ, List.count_cons, List.count_cons]
      omega
theorem rOut_count {n : Nat} {cs : List Int} {left : List Bool} {lots : List Int} (hp : lots.Perm (iota n)) (hl : left.length = n) (hc : 1 ≤ left.count false) :
    ∃ k : Nat, rOut cs left lots = (k : Int) ∧ k < n ∧ left[k]? = some false ∧ (left.set k true).count false + 1 = left.count false := by
  obtain ⟨h1, h2, _⟩ := rOut_spec (cs := cs) hp hl hc
  have hr := mem_iota.1 (hp.mem_iff.1 h1)
  have h3 := stays_at h2
  exact ⟨(rOut cs left lots).toNat, by omega, by omega, h3, count_set h3⟩

/-- The reference's first of the least ones. -/
def fStep (cs : List Int) (left : List Bool) (b c : Int) : Int := if left.getD c.toNat true = false ∧ (b < 0 ∨ cAt cs c < cAt cs b) then c else b
def sStep (cs : List Int) (left : List Bool) (b c : Int) : Int := if left.getD c.toNat true = false ∧ cAt cs c = cAt cs b then c else b
def sLeast (cs : List Int) (left : List Bool) (lots : List Int) (n : Nat) : Int := lots.foldl (sStep cs left) ((iota n).foldl (fStep cs left) (-1))
theorem fPre {cs : List Int} {left : List Bool} : ∀ (k : Nat), ((iota k).foldl (fStep cs left) (-1) = -1 ∧ ∀ c ∈ iota k, ¬ stays left c) ∨ ((iota k).foldl (fStep cs left) (-1) ∈ iota k ∧ stays left ((iota k).foldl (fStep cs left) (-1)) ∧ ∀ c ∈ iota k, stays left c → cAt cs ((iota k).foldl (fStep cs left) (-1)) ≤ cAt cs c) := by
  intro k
  induction k with
  | zero => exact .inl ⟨rfl, by simp [iota]⟩
  | succ k ih =>
    rw [iota_succ, List.foldl_append, List.foldl_cons, List.foldl_nil]
    obtain ⟨o, ho⟩ : ∃ o, (iota k).foldl (fStep cs left) (-1) = o := ⟨_, rfl⟩
    rw [ho] at ih ⊢
    by_cases hs : stays left (k : Int)
    · rcases ih with ⟨rfl, h2⟩ | ⟨h1, h2, h3⟩
      · have e : fStep cs left (-1) (k : Int) = k := by unfold fStep; rw [if_pos ⟨hs, .inl (by omega)⟩]
        rw [e]
        refine .inr ⟨by simp, hs, fun d hd hsd => ?_⟩
        rcases List.mem_append.1 hd with hd | hd
        · exact absurd hsd (h2 d hd)
        · rw [List.mem_singleton.1 hd]; exact Int.le_refl _
      · have ho0 : 0 ≤ o := (mem_iota.1 h1).1
        by_cases hle : cAt cs (k : Int) < cAt cs o
        · have e : fStep cs left o (k : Int) = k := by unfold fStep; rw [if_pos ⟨hs, .inr hle⟩]
          rw [e]
          refine .inr ⟨by simp, hs, fun d hd hsd => ?_⟩
          rcases List.mem_append.1 hd with hd | hd
          · have := h3 d hd hsd; omega
          · rw [List.mem_singleton.1 hd]; exact Int.le_refl _
        · have e : fStep cs left o (k : Int) = o := by unfold fStep; rw [if_neg (by rintro ⟨_, h | h⟩; omega; exact hle h)]
          rw [e]
          refine .inr ⟨by simp [h1], h2, fun d hd hsd => ?_⟩
          rcases List.mem_append.1 hd with hd | hd
          · exact h3 d hd hsd
          · rw [List.mem_singleton.1 hd]; omega
    · have e : fStep cs left o (k : Int) = o := by unfold fStep; rw [if_neg (by rintro ⟨h, _⟩; exact hs h)]
      rw [e]
      rcases ih with ⟨h1, h2⟩ | ⟨h1, h2, h3⟩
      · refine .inl ⟨h1, fun d hd => ?_⟩
        rcases List.mem_append.1 hd with hd | hd
        · exact h2 d hd
        · rw [List.mem_singleton.1 hd]; exact hs
      · refine .inr ⟨by simp [h1], h2, fun d hd hsd => ?_⟩
        rcases List.mem_append.1 hd with hd | hd
        · exact h3 d hd hsd
        · rw [List.mem_singleton.1 hd] at hsd; exact absurd hsd hs
/-- Both walks through the lots, side by side. -/
theorem two_least {cs : List Int} {left : List Bool} {m b0 : Int} (hb0 : cAt cs b0 = m) (hm : ∀ c, stays left c → c ∈ ([] : List Int) ∨ True) : ∀ (l : List Int), (∀ c ∈ l, 0 ≤ c) → (∀ c ∈ l, stays left c → m ≤ cAt cs c) →
    cAt cs (l.foldl (sStep cs left) b0) = m ∧ ((0 ≤ l.foldl (rStep cs left) (-1) ∧ l.foldl (rStep cs left) (-1) = l.foldl (sStep cs left) b0) ∨
      ((l.foldl (rStep cs left) (-1) < 0 ∨ m < cAt cs (l.foldl (rStep cs left) (-1))) ∧ ∀ d ∈ l, stays left d → m < cAt cs d)) := by
  intro l
  induction l using snocInd with
  | nil => intro _ _; exact ⟨hb0, .inr ⟨.inl (show (-1 : Int) < 0 by decide), by simp⟩⟩
  | append_singleton l c ih =>
    intro h0 hl
    obtain ⟨i1, i2⟩ := ih (fun d hd => h0 d (by simp [hd])) (fun d hd => hl d (by simp [hd]))
    rw [List.foldl_append, List.foldl_cons, List.foldl_nil, List.foldl_append, List.foldl_cons, List.foldl_nil]
    obtain ⟨o, ho⟩ : ∃ o, l.foldl (rStep cs left) (-1) = o := ⟨_, rfl⟩
    obtain ⟨b, hb⟩ : ∃ b, l.foldl (sStep cs left) b0 = b := ⟨_, rfl⟩
    rw [ho, hb] at i2
    rw [hb] at i1
    rw [ho, hb]
    by_cases hs : stays left c
    · have hmc := hl c (by simp) hs
      by_cases he : cAt cs c = m
      · have e1 : sStep cs left b c = c := by unfold sStep; rw [if_pos ⟨hs, by rw [he, i1]⟩]
        have e2 : rStep cs left o c = c := by
          have hor : o < 0 ∨ cAt cs c ≤ cAt cs o := by
            rcases i2 with ⟨h1, h2⟩ | ⟨h1 | h1, h2⟩
            · right; rw [h2, i1]; omega
            · exact .inl h1
            · right; omega
          unfold rStep
          rw [if_pos ⟨hs, hor⟩]
        rw [e1, e2]
        exact ⟨he, .inl ⟨h0 c (by simp), rfl⟩⟩
      · have e1 : sStep cs left b c = b := by unfold sStep; rw [if_neg (by rintro ⟨_, h⟩; rw [i1] at h; exact he h)]
        rw [e1]
        refine ⟨i1, ?_⟩
        rcases i2 with ⟨h1, h2⟩ | ⟨h1, h2⟩
        · left
          have e2 : rStep cs left o c = o := by
            unfold rStep
            rw [if_neg]
            rintro ⟨_, h | h⟩
            · omega
            · rw [h2, i1] at h; omega
          rw [e2]
          exact ⟨h1, h2⟩
        · right
          refine ⟨?_, fun d hd hsd => ?_⟩
          · unfold rStep
            split
            · right; omega
            · exact h1
          · rcases List.mem_append.1 hd with hd | hd
            · exact h2 d hd hsd
            · rw [List.mem_singleton.1 hd]; omega
    · have e1 : sStep cs left b c = b := by unfold sStep; rw [if_neg (by rintro ⟨h, _⟩; exact hs h)]
      have e2 : rStep cs left o c = o := by unfold rStep; rw [if_neg (by rintro ⟨h, _⟩; exact hs h)]
      rw [e1, e2]
      refine ⟨i1, ?_⟩
      rcases i2 with h | ⟨h1, h2⟩
      · exact .inl h
      · refine .inr ⟨h1, fun d hd hsd => ?_⟩
        rcases List.mem_append.1 hd with hd | hd
        · exact h2 d hd hsd
        · rw [List.mem_singleton.1 hd] at hsd; exact absurd hsd hs
theorem sLeast_eq {n : Nat} {cs : List Int} {left : List Bool} {lots : List Int} (hp : lots.Perm (iota n)) (hl : left.length = n) (hc : 1 ≤ left.count false) : sLeast cs left lots n = rOut cs left lots := by
  obtain ⟨k, hk, hs⟩ := count_stays hc
  have hsk : stays left (k : Int) := by
    unfold stays
    rw [Int.toNat_natCast, List.getD_eq_getElem?_getD, hs]
    rfl
  rcases fPre (cs := cs) (left := left) n with ⟨h1, h2⟩ | ⟨h1, h2, h3⟩
  · exact absurd hsk (h2 _ (mem_iota.2 (by omega)))
  · unfold sLeast rOut
    obtain ⟨b0, hb0⟩ : ∃ b, (iota n).foldl (fStep cs left) (-1) = b := ⟨_, rfl⟩
    rw [hb0] at h1 h2 h3 ⊢
    obtain ⟨_, h | ⟨_, h⟩⟩ := two_least (cs := cs) (left := left) (m := cAt cs b0) (b0 := b0) rfl (fun _ _ => .inr trivial) lots (fun c hc => (mem_iota.1 (hp.mem_iff.1 hc)).1) (fun c hc hsc => h3 c (hp.mem_iff.1 hc) hsc)
    · exact h.2.symm
    · have := h b0 (hp.mem_iff.2 h1) h2
      omega

/-- The marks of those who left. -/
def goneOf (left : List Bool) (rs : List Rnd) : List Bool := rs.foldl (fun l r => l.set r.2.toNat true) left
def cutOf (cs : List Int) (rs : List Rnd) : List Int := rs.foldl (fun l r => l.set r.2.toNat (-1)) cs
theorem goneOf_len (rs : List Rnd) : ∀ left : List Bool, (goneOf left rs).length = left.length := by
  induction rs with
  | nil => intro _; rfl
  | cons r rs ih => intro left; show (goneOf (left.set r.2.toNat true) rs).length = _; rw [ih, List.length_set]
theorem rGo_shape {n : Nat} {ps : List Pl} {lots : List Int} (hp : lots.Perm (iota n)) : ∀ (f : Nat) (left : List Bool), left.length = n → left.count false = f → 1 ≤ f →
    ∃ ini, rGo ps lots f left = ini ++ [(fCounts (goneOf left ini) ps, -1)] ∧ 1 ≤ (goneOf left ini).count false ∧ (∀ r ∈ ini, ∃ k : Nat, r.2 = (k : Int) ∧ k < n) ∧ (∀ r ∈ ini, r.1.length = n) ∧ ini.length + 1 ≤ f
  | 0, left, _, _, h => by omega
  | f + 1, left, hl, hc, _ => by
    rw [rGo]
    by_cases hd : rDone (fCounts left ps) left = true
    · rw [if_pos hd]
      exact ⟨[], rfl, by show 1 ≤ left.count false; omega, by simp, by simp, by simp⟩
    · rw [if_neg hd]
      obtain ⟨k, hk, hkn, hks, hkc⟩ := rOut_count (cs := fCounts left ps) hp hl (by omega)
      rw [hk, Int.toNat_natCast]
      have hf : f ≠ 0 := by
        intro e
        apply hd
        unfold rDone
        rw [hc, e]
        simp
      obtain ⟨ini, e, h1, h2, h3, h4⟩ := rGo_shape (ps := ps) hp f (left.set k true) (by rw [List.length_set, hl]) (by omega) (by omega)
      refine ⟨(fCounts left ps, (k : Int)) :: ini, by rw [e]; rfl, ?_, fun r hr => ?_, fun r hr => ?_, by rw [List.length_cons]; omega⟩
      · exact h1
      · rcases List.mem_cons.1 hr with rfl | hr
        · exact ⟨k, rfl, hkn⟩
        · exact h2 r hr
      · rcases List.mem_cons.1 hr with rfl | hr
        · show (fCounts left ps).length = n
          rw [fCounts_len, hl]
        · exact h3 r hr

theorem cut_set (cs : List Int) (left : List Bool) (k : Nat) : cutB cs ((left.set k true).map (!·)) = (cutB cs (left.map (!·))).set k (-1) := by
  unfold cutB
  apply List.ext_getElem?
  intro i
  rw [List.getElem?_map]
  by_cases hi : i = k
  · subst hi
    cases h : cs[i]? with
    | none =>
      have h1 : cs.length ≤ i := by rwa [List.getElem?_eq_none_iff] at h
      rw [List.getElem?_eq_none (by simp; omega), List.getElem?_eq_none (by simp; omega)]
      rfl
    | some z =>
      have hic : i < cs.length := (List.getElem?_eq_some_iff.1 h).1
      cases h2 : left[i]? with
      | none =>
        have h1 : left.length ≤ i := by rwa [List.getElem?_eq_none_iff] at h2
        rw [List.getElem?_eq_none (by simp; omega), List.getElem?_eq_none (by simp; omega)]
        rfl
      | some b =>
        have hil : i < left.length := (List.getElem?_eq_some_iff.1 h2).1
        have e1 : (cs.zip ((left.set i true).map (!·)))[i]? = some (z, false) := by
          rw [List.getElem?_zip_eq_some]
          refine ⟨h, ?_⟩
          rw [List.getElem?_map, List.getElem?_set_self hil]
          rfl
        rw [e1, List.getElem?_set_self (by simp; omega)]
        rfl
  · rw [List.getElem?_set_ne (fun e => hi e.symm), List.getElem?_map]
    congr 1
    simp only [List.zip, List.getElem?_zipWith, List.getElem?_map, List.getElem?_set_ne (fun e => hi (Eq.symm e))]
theorem cutB_falses (cs : List Int) : cutB cs ((List.replicate cs.length false).map (!·)) = cs := by
  rw [List.map_replicate]
  exact cutB_all cs
theorem cut_gone (cs : List Int) (rs : List Rnd) : ∀ left : List Bool, cutOf (cutB cs (left.map (!·))) rs = cutB cs ((goneOf left rs).map (!·)) := by
  induction rs with
  | nil => intro _; rfl
  | cons r rs ih =>
    intro left
    show cutOf ((cutB cs (left.map (!·))).set r.2.toNat (-1)) rs = cutB cs ((goneOf (left.set r.2.toNat true) rs).map (!·))
    rw [← cut_set, ih]
/-- The winner of a runoff. -/
def rWin (rs : List Rnd) (lots : List Int) : Int := gBest (cutOf (rs.getLastD ([], -1)).1 rs.dropLast) lots
def rWinS (rs : List Rnd) (lots : List Int) : Int := firstOf lots (mostB (rs.getLastD ([], -1)).1 ((goneOf (List.replicate lots.length false) rs.dropLast).map (!·)))
theorem rWin_eq {n : Nat} {ps : List Pl} {lots : List Int} (hp : lots.Perm (iota n)) (hn : 1 ≤ n) (hps : ∀ p ∈ ps, 0 ≤ p.2 ∧ p.2 ≤ 99) : rWinS (rRounds ps lots) lots = rWin (rRounds ps lots) lots := by
  have hll : lots.length = n := by rw [hp.length_eq, iota_len]
  obtain ⟨ini, e, h1, _, _, _⟩ := rGo_shape (ps := ps) hp n (List.replicate n false) (by simp) (by simp) hn
  unfold rWinS rWin rRounds
  rw [hll, e, show ∀ (l : List Rnd) (a d : Rnd), (l ++ [a]).getLastD d = a from fun l a d => by simp [List.getLastD_eq_getLast?], List.dropLast_concat]
  obtain ⟨G, hG⟩ : ∃ G, goneOf (List.replicate n false) ini = G := ⟨_, rfl⟩
  have hGl : G.length = n := by rw [← hG, goneOf_len]; simp
  have hcl : (fCounts G ps).length = n := by rw [fCounts_len, hGl]
  have hcut := cut_gone (fCounts G ps) ini (List.replicate (fCounts G ps).length false)
  rw [cutB_falses] at hcut
  rw [hG] at h1 ⊢
  obtain ⟨k, hk, hks⟩ := count_stays h1
  show firstOf lots (mostB (fCounts G ps) (G.map (!·))) = gBest (cutOf (fCounts G ps) ini) lots
  rw [hcut, hcl, hG]
  refine most_first hp hcl (by rw [List.length_map, hGl]) (fun z hz => (fCounts_nn hps z hz).1) ⟨k, by omega, ?_⟩
  rw [List.getElem?_map, hks]
  rfl
end Go.Proofs.YtipnalfkpalieaaDoor
