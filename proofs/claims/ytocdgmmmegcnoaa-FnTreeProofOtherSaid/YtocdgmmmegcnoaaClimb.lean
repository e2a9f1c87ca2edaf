/-
  Plain laws on trees of sums: a proof leads from a leaf to the root; a shorter one does not; another leaf leads elsewhere.
-/
import Derived.Test.YtocdgmmmegcnoaaProof
namespace Go.Proofs.Ytocdgmmmegcnoaa
set_option linter.unusedVariables false

/-- What a proof leads to. -/
def climb (p : Nat) (xs : List Int) (v : Int) : Int :=
  if xs.length ≤ 1 then v else climb (p / 2) (upRow xs) (match xs[otherOf p]? with | some z => if p % 2 = 0 then nodeSum v z else nodeSum z v | none => v)
termination_by xs.length
decreasing_by rw [upRow_len]; omega
theorem climb_end {p : Nat} {xs : List Int} {v : Int} (h : xs.length ≤ 1) : climb p xs v = v := by rw [climb.eq_def, if_pos h]
theorem climb_some {p : Nat} {z : Int} {xs : List Int} {v : Int} (h : ¬ xs.length ≤ 1) (hz : xs[otherOf p]? = some z) : climb p xs v = climb (p / 2) (upRow xs) (if p % 2 = 0 then nodeSum v z else nodeSum z v) := by
  rw [climb.eq_def, if_neg h, hz]
theorem climb_none {p : Nat} {xs : List Int} {v : Int} (h : ¬ xs.length ≤ 1) (hz : ¬ otherOf p < xs.length) : climb p xs v = climb (p / 2) (upRow xs) v := by
  rw [climb.eq_def, if_neg h, List.getElem?_eq_none (by omega)]

theorem upRow_lt {xs : List Int} {p : Nat} (h : p < xs.length) : p / 2 < (upRow xs).length := by rw [upRow_len]; omega

theorem checkGo_climb (rest : List Int) (n : Nat) : ∀ (p : Nat) (xs : List Int) (v : Int), xs.length = n → p < n → checkGo n p v (proofGo p xs ++ rest) = some (climb p xs v, rest) := by
  induction n using Nat.strongRecOn with
  | _ n ih =>
    intro p xs v h hp
    by_cases h1 : n ≤ 1
    · rw [checkGo_end h1, proofGo_end (by omega), climb_end (by omega)]
      rfl
    · have hu : (upRow xs).length = (n + 1) / 2 := by rw [upRow_len, h]
      have ihn := fun v => ih ((n + 1) / 2) (by omega) (p / 2) (upRow xs) v hu (by omega)
      by_cases ho : otherOf p < n
      · have hz := List.getElem?_eq_getElem (l := xs) (i := otherOf p) (by omega)
        rw [proofGo_some (by omega) hz, climb_some (by omega) hz, List.cons_append, checkGo_cons h1 ho]
        exact ihn _
      · rw [proofGo_none (by omega) (by omega), climb_none (by omega) (by omega), checkGo_skip h1 ho]
        exact ihn _

theorem checkGo_short (n : Nat) : ∀ (p : Nat) (xs : List Int) (v : Int) (k : Nat), xs.length = n → p < n → k < (proofGo p xs).length → checkGo n p v ((proofGo p xs).take k) = none := by
  induction n using Nat.strongRecOn with
  | _ n ih =>
    intro p xs v k h hp hk
    by_cases h1 : n ≤ 1
    · rw [proofGo_end (by omega)] at hk
      cases hk
    · have hu : (upRow xs).length = (n + 1) / 2 := by rw [upRow_len, h]
      have ihn := fun v k => ih ((n + 1) / 2) (by omega) (p / 2) (upRow xs) v k hu (by omega)
      by_cases ho : otherOf p < n
      · have hz := List.getElem?_eq_getElem (l := xs) (i := otherOf p) (by omega)
        rw [proofGo_some (by omega) hz] at hk ⊢
        cases k with
        | zero => rw [List.take_zero, checkGo_none h1 ho]
        | succ k =>
          rw [List.take_succ_cons, checkGo_cons h1 ho]
          exact ihn _ k (by simpa using hk)
      · rw [proofGo_none (by omega) (by omega)] at hk ⊢
        rw [checkGo_skip h1 ho]
        exact ihn _ k hk

theorem upRow_at_two : ∀ (xs : List Int) (q : Nat) (a b : Int), xs[2 * q]? = some a → xs[2 * q + 1]? = some b → (upRow xs)[q]? = some (nodeSum a b)
  | [], q, a, b, h, _ => by simp at h
  | [x], q, a, b, h, h' => by
    have := (List.getElem?_eq_some_iff.1 h').1
    simp at this
  | x :: y :: r, 0, a, b, h, h' => by
    simp at h h'
    subst h h'
    rfl
  | x :: y :: r, q + 1, a, b, h, h' => by
    have e : 2 * (q + 1) = 2 * q + 1 + 1 := by omega
    rw [e, List.getElem?_cons_succ, List.getElem?_cons_succ] at h
    rw [e, List.getElem?_cons_succ, List.getElem?_cons_succ] at h'
    rw [upRow, List.getElem?_cons_succ]
    exact upRow_at_two r q a b h h'
theorem upRow_at_one : ∀ (xs : List Int) (q : Nat) (a : Int), xs[2 * q]? = some a → xs.length = 2 * q + 1 → (upRow xs)[q]? = some a
  | [], q, a, h, _ => by simp at h
  | [x], q, a, h, h' => by
    have hq : q = 0 := by simp at h'; omega
    subst hq
    simp at h
    subst h
    rfl
  | x :: y :: r, 0, a, h, h' => by simp at h'
  | x :: y :: r, q + 1, a, h, h' => by
    have e : 2 * (q + 1) = 2 * q + 1 + 1 := by omega
    rw [e, List.getElem?_cons_succ, List.getElem?_cons_succ] at h
    rw [upRow, List.getElem?_cons_succ]
    exact upRow_at_one r q a h (by simp at h'; omega)

theorem climb_top (n : Nat) : ∀ (p : Nat) (xs : List Int) (v : Int), xs.length = n → xs[p]? = some v → climb p xs v = (topRow xs).headD 0 := by
  induction n using Nat.strongRecOn with
  | _ n ih =>
    intro p xs v h hv
    have hp := (List.getElem?_eq_some_iff.1 hv).1
    by_cases h1 : n ≤ 1
    · rw [climb_end (by omega), topRow_end (by omega)]
      match xs, h, hv with
      | [], _, hv => cases hv
      | [x], _, hv =>
        have : p = 0 := by simp at hp; omega
        subst this
        simpa using hv.symm
      | _ :: _ :: _, h, _ => simp at h; omega
    · have hu : (upRow xs).length = (n + 1) / 2 := by rw [upRow_len, h]
      have ihn := fun v => ih ((n + 1) / 2) (by omega) (p / 2) (upRow xs) v hu
      rw [topRow_up (by omega)]
      by_cases ho : otherOf p < n
      · have hz := List.getElem?_eq_getElem (l := xs) (i := otherOf p) (by omega)
        rw [climb_some (by omega) hz]
        refine ihn _ ?_
        by_cases hpar : p % 2 = 0
        · rw [if_pos hpar]
          have e : otherOf p = 2 * (p / 2) + 1 := by rw [otherOf, if_pos hpar]; omega
          refine upRow_at_two xs (p / 2) v _ (by rw [show 2 * (p / 2) = p from by omega]; exact hv) ?_
          rw [← e]
          exact hz
        · rw [if_neg hpar]
          have e : otherOf p = 2 * (p / 2) := by rw [otherOf, if_neg hpar]; omega
          refine upRow_at_two xs (p / 2) _ v ?_ (by rw [show 2 * (p / 2) + 1 = p from by omega]; exact hv)
          rw [← e]
          exact hz
      · rw [climb_none (by omega) (by omega)]
        refine ihn _ ?_
        have hpar : p % 2 = 0 := by
          rcases Nat.mod_two_eq_zero_or_one p with e | e
          · exact e
          · exfalso; apply ho; rw [otherOf, if_neg (by omega)]; omega
        have e : otherOf p = p + 1 := by rw [otherOf, if_pos hpar]
        exact upRow_at_one xs (p / 2) v (by rw [show 2 * (p / 2) = p from by omega]; exact hv) (by omega)

/-- Sums that may stand in a tree. -/
def Val (v : Int) : Prop := 0 ≤ v ∧ v ≤ 9972
theorem nodeSum_val {a b : Int} (ha : Val a) (hb : Val b) : Val (nodeSum a b) := by
  obtain ⟨h1, h2⟩ := ha
  obtain ⟨h3, h4⟩ := hb
  unfold nodeSum Val
  rw [if_pos ⟨h1, h2, h3, h4⟩]
  omega
theorem nodeSum_bad_l {b : Int} : nodeSum (-1) b = -1 := by unfold nodeSum; rw [if_neg (by omega)]
theorem nodeSum_bad_r {a : Int} : nodeSum a (-1) = -1 := by unfold nodeSum; rw [if_neg (by omega)]
theorem nodeSum_inj_l {a b z : Int} (ha : Val a) (hb : Val b) (hz : Val z) (h : nodeSum a z = nodeSum b z) : a = b := by
  unfold Val at ha hb hz
  unfold nodeSum at h
  rw [if_pos (by omega), if_pos (by omega)] at h
  omega
theorem nodeSum_inj_r {a b z : Int} (ha : Val a) (hb : Val b) (hz : Val z) (h : nodeSum z a = nodeSum z b) : a = b := by
  unfold Val at ha hb hz
  unfold nodeSum at h
  rw [if_pos (by omega), if_pos (by omega)] at h
  omega
theorem upRow_val : ∀ xs : List Int, (∀ x ∈ xs, Val x) → ∀ x ∈ upRow xs, Val x
  | [], _, x, hx => by simp [upRow] at hx
  | [a], h, x, hx => by simp [upRow] at hx; subst hx; exact h _ (by simp)
  | a :: b :: r, h, x, hx => by
    rw [upRow] at hx
    rcases List.mem_cons.1 hx with rfl | hx
    · exact nodeSum_val (h a (by simp)) (h b (by simp))
    · exact upRow_val r (fun y hy => h y (by simp [hy])) x hx
theorem climb_bad (n : Nat) : ∀ (p : Nat) (xs : List Int), xs.length = n → climb p xs (-1) = -1 := by
  induction n using Nat.strongRecOn with
  | _ n ih =>
    intro p xs h
    by_cases h1 : n ≤ 1
    · rw [climb_end (by omega)]
    · have hu : (upRow xs).length = (n + 1) / 2 := by rw [upRow_len, h]
      by_cases ho : otherOf p < n
      · have hz := List.getElem?_eq_getElem (l := xs) (i := otherOf p) (by omega)
        rw [climb_some (by omega) hz, nodeSum_bad_l, nodeSum_bad_r, ite_self]
        exact ih _ (by omega) _ _ hu
      · rw [climb_none (by omega) (by omega)]
        exact ih _ (by omega) _ _ hu
theorem climb_inj (n : Nat) : ∀ (p : Nat) (xs : List Int) (a b : Int), xs.length = n → (∀ x ∈ xs, Val x) → Val a → Val b → climb p xs a = climb p xs b → a = b := by
  induction n using Nat.strongRecOn with
  | _ n ih =>
    intro p xs a b h hx ha hb he
    by_cases h1 : n ≤ 1
    · rwa [climb_end (by omega), climb_end (by omega)] at he
    · have hu : (upRow xs).length = (n + 1) / 2 := by rw [upRow_len, h]
      by_cases ho : otherOf p < n
      · have hz := List.getElem?_eq_getElem (l := xs) (i := otherOf p) (by omega)
        have hzv := hx _ (List.mem_of_getElem? hz)
        rw [climb_some (by omega) hz, climb_some (by omega) hz] at he
        by_cases hpar : p % 2 = 0
        · rw [if_pos hpar, if_pos hpar] at he
          exact nodeSum_inj_l ha hb hzv (ih _ (by omega) _ _ _ _ hu (upRow_val xs hx) (nodeSum_val ha hzv) (nodeSum_val hb hzv) he)
        · rw [if_neg hpar, if_neg hpar] at he
          exact nodeSum_inj_r ha hb hzv (ih _ (by omega) _ _ _ _ hu (upRow_val xs hx) (nodeSum_val hzv ha) (nodeSum_val hzv hb) he)
      · rw [climb_none (p := p) (xs := xs) (v := a) (by omega) (by omega), climb_none (p := p) (xs := xs) (v := b) (by omega) (by omega)] at he
        exact ih _ (by omega) _ _ _ _ hu (upRow_val xs hx) ha hb he

theorem topRow_val (n : Nat) : ∀ xs : List Int, xs.length = n → (∀ x ∈ xs, Val x) → ∀ x ∈ topRow xs, Val x := by
  induction n using Nat.strongRecOn with
  | _ n ih =>
    intro xs h hx
    by_cases h1 : n ≤ 1
    · rw [topRow_end (by omega)]; exact hx
    · rw [topRow_up (by omega)]
      exact ih ((n + 1) / 2) (by omega) (upRow xs) (by rw [upRow_len, h]) (upRow_val xs hx)

/-- A valid leaf's sum. -/
theorem leafSum_lt {number : Int} {s : ByteArray} (h : leafOK number s = true) : Val (leafSum number s) := by
  have hn : 0 ≤ number ∧ number ≤ 7 := by simp [leafOK, inB] at h; exact h.2
  unfold leafSum Val
  rw [if_pos h]
  cases hs : s.size with
  | zero => simp [leafTo]; omega
  | succ k =>
    rw [leafTo_succ _ s k (by omega)]
    have := (leafTo_bd (7 + number) s (by omega) (by omega) k (by omega)).1
    omega
theorem leafSum_or (number : Int) (s : ByteArray) : leafSum number s = -1 ∨ Val (leafSum number s) := by
  cases h : leafOK number s with
  | false => left; rw [leafSum, h]; rfl
  | true => exact .inr (leafSum_lt h)

section
variable {ss : List ByteArray} {place : Int}
theorem proof_at (h : proofOK ss place = true) : ∃ p s, place = ((p : Nat) : Int) ∧ p < ss.length ∧ ss[p]? = some s ∧ treeOK ss = true ∧ 1 ≤ ss.length ∧ ss.length ≤ 8 ∧ treeProof ss place = proofGo p (leavesOf ss) := by
  have h0 := h
  rw [proofOK, Bool.and_eq_true] at h
  obtain ⟨h1, h2⟩ := h
  have h3 : 1 ≤ ss.length ∧ ss.length ≤ 8 := by have := h1; simp [treeOK, inB] at this; omega
  have h4 : 0 ≤ place ∧ place < ss.length := by simp [inB] at h2; omega
  obtain ⟨p, rfl⟩ := Int.eq_ofNat_of_zero_le h4.1
  have hp : p < ss.length := by omega
  exact ⟨p, _, rfl, hp, List.getElem?_eq_getElem hp, h1, h3.1, h3.2, by rw [treeProof, h0, if_pos rfl, Int.toNat_natCast]⟩
theorem leaves_val (h : treeOK ss = true) : ∀ x ∈ leavesOf ss, Val x := by
  intro x hx
  have hl : ss.length ≤ 8 := by have := h; simp [treeOK, inB] at this; omega
  rw [treeOK, Bool.and_eq_true, List.all_eq_true] at h
  unfold leavesOf at hx
  obtain ⟨i, hi, rfl⟩ := List.mem_map.1 hx
  have hi := List.mem_range.1 hi
  refine leafSum_lt ?_
  rw [List.getD_eq_getElem?_getD, List.getElem?_eq_getElem hi]
  have := h.1 _ (List.getElem_mem hi)
  have : ballotOK (ballotOf ss[i]) 5 = true := this
  simp [leafOK, inB, this]
  omega
theorem root_val (h : treeOK ss = true) : Val (treeRoot ss) := by
  have hl : 1 ≤ ss.length := by have := h; simp [treeOK, inB] at this; omega
  rw [treeRoot, if_pos h]
  have h1 := topRow_len _ (leavesOf ss) rfl (by rw [leavesOf_len]; exact hl)
  have hv := topRow_val _ (leavesOf ss) rfl (leaves_val h)
  cases ht : topRow (leavesOf ss) with
  | nil => rw [ht] at h1; cases h1
  | cons a r => exact hv a (by rw [ht]; simp)
/-- What a check of a text with a tree's proof, or with more, leads to. -/
theorem check_proof {p : Nat} (hp : p < ss.length) (h1 : 1 ≤ ss.length) (h8 : ss.length ≤ 8) (root : Int) (t : ByteArray) (rest : List Int) :
    treeCheck root (ss.length : Int) (p : Int) t (proofGo p (leavesOf ss) ++ rest) = checkEnd root (some (climb p (leavesOf ss) (leafSum (p : Int) t), rest)) := by
  rw [treeCheck, if_pos (by omega), Int.toNat_natCast, Int.toNat_natCast, checkGo_climb rest _ p (leavesOf ss) _ (leavesOf_len ss) hp]
theorem climb_leaf {p : Nat} {s : ByteArray} (hok : treeOK ss = true) (hs : ss[p]? = some s) : climb p (leavesOf ss) (leafSum (p : Int) s) = treeRoot ss := by
  rw [climb_top _ p (leavesOf ss) _ rfl (leavesOf_at hs), treeRoot, if_pos hok]
theorem check_right {p : Nat} {s : ByteArray} (hok : treeOK ss = true) (hs : ss[p]? = some s) (h1 : 1 ≤ ss.length) (h8 : ss.length ≤ 8) :
    treeCheck (treeRoot ss) (ss.length : Int) (p : Int) s (proofGo p (leavesOf ss)) = true := by
  have h := check_proof (List.getElem?_eq_some_iff.1 hs).1 h1 h8 (treeRoot ss) s []
  rw [List.append_nil] at h
  rw [h, climb_leaf hok hs, checkEnd]
  simp [(root_val hok).1]
theorem check_other {p : Nat} {s : ByteArray} (hok : treeOK ss = true) (hs : ss[p]? = some s) (h1 : 1 ≤ ss.length) (h8 : ss.length ≤ 8) (t : ByteArray) :
    treeCheck (treeRoot ss) (ss.length : Int) (p : Int) t (proofGo p (leavesOf ss)) = (leafSum (p : Int) t == leafSum (p : Int) s) := by
  have h := check_proof (List.getElem?_eq_some_iff.1 hs).1 h1 h8 (treeRoot ss) t []
  rw [List.append_nil] at h
  rw [h]
  have hv : Val (leafSum (p : Int) s) := leaves_val hok _ (List.mem_of_getElem? (leavesOf_at hs))
  rcases leafSum_or (p : Int) t with e | hvt
  · rw [e, climb_bad _ p _ rfl, checkEnd]
    have : ((-1 : Int) == leafSum (p : Int) s) = false := by
      rw [beq_eq_false_iff_ne]
      have := hv.1
      omega
    rw [this]
    rfl
  · by_cases heq : leafSum (p : Int) t = leafSum (p : Int) s
    · rw [heq, climb_leaf hok hs, checkEnd]
      simp [(root_val hok).1]
    · have hne : climb p (leavesOf ss) (leafSum (p : Int) t) ≠ treeRoot ss := by
        rw [← climb_leaf hok hs]
        intro e
        exact heq (climb_inj _ p _ _ _ rfl (leaves_val hok) hvt hv e)
      rw [checkEnd, beq_eq_false_iff_ne.2 hne, beq_eq_false_iff_ne.2 heq]
      simp
theorem check_root {p : Nat} {s : ByteArray} (hok : treeOK ss = true) (hs : ss[p]? = some s) (h1 : 1 ≤ ss.length) (h8 : ss.length ≤ 8) {root : Int} (hr : root ≠ treeRoot ss) :
    treeCheck root (ss.length : Int) (p : Int) s (proofGo p (leavesOf ss)) = false := by
  have h := check_proof (List.getElem?_eq_some_iff.1 hs).1 h1 h8 root s []
  rw [List.append_nil] at h
  rw [h, climb_leaf hok hs, checkEnd, beq_eq_false_iff_ne.2 (Ne.symm hr)]
  simp
theorem check_more {p : Nat} {s : ByteArray} (hs : ss[p]? = some s) (h1 : 1 ≤ ss.length) (h8 : ss.length ≤ 8) (root z : Int) :
    treeCheck root (ss.length : Int) (p : Int) s (proofGo p (leavesOf ss) ++ [z]) = false := by
  rw [check_proof (List.getElem?_eq_some_iff.1 hs).1 h1 h8 root s [z], checkEnd]
  simp
theorem check_less {p : Nat} {s : ByteArray} (hs : ss[p]? = some s) (h1 : 1 ≤ ss.length) (h8 : ss.length ≤ 8) (root : Int) {k : Nat} (hk : k < (proofGo p (leavesOf ss)).length) :
    treeCheck root (ss.length : Int) (p : Int) s ((proofGo p (leavesOf ss)).take k) = false := by
  have hp := (List.getElem?_eq_some_iff.1 hs).1
  rw [treeCheck, if_pos (by omega), Int.toNat_natCast, Int.toNat_natCast, checkGo_short _ p (leavesOf ss) _ k (leavesOf_len ss) hp hk]
  rfl
end
end Go.Proofs.Ytocdgmmmegcnoaa
