/-
  A region that draws its order, over any program: as XFlow, where an operation may read a slot that another one, later by the region's edges, writes.
-/
import Derived.Test.YtipnalfkpalieaaDoorFlow
import Derived.Test.YtipnalfkpalieaaDoorKnown
namespace Go.Proofs.YtipnalfkpalieaaDoor
open Go.RowKit
set_option linter.unusedVariables false

section
variable {P : Program} {Q : Exit → Act → World → Prop}
attribute [local semireducible] flowOp
/-- THE LAW, where an operation may read a slot that a later one writes. -/
theorem wp_region_flow2 {id : Nat} {l : List Oper} {a : Act} {w : World} (hm : P.follows .mixedOrders = true) (hB : flowB l = true)
    (C : Nat → World → Prop) (T : Nat → World → World → Prop) (φ : Nat → Value → World → Prop)
    (hC : C 0 w.drew)
    (hT : ∀ n x y, T n x y → C n x → C (n + 1) y)
    (hφ : ∀ n x y, T n x y → C n x → ∀ i v, φ i v x → φ i v y)
    (hstep : ∀ i o, l[i]? = some o → ∀ (n : Nat) (u : Nat → Value) (x : World), n < l.length → C n x → (∀ j ∈ flowPreds o, φ j (u j) x) → (∀ j o', l[j]? = some o' → i ∈ flowPreds o' → ∀ d, o'.dst = some d → u j = a.tmps.getD d undef) →
      flowOp P l.toArray o (flowAct a u 0 l) x (fun v y => T n x y ∧ φ i v y))
    (hend : ∀ (n : Nat) (u : Nat → Value) (x : World), n ≤ l.length → C n x → (∀ i, i < l.length → φ i (u i) x) → Q .normal (flowAct a u 0 l) x) :
    (Code.region id l.toArray true).wp P Q a w := by
  simp only [flowB, Bool.and_eq_true, List.all_eq_true] at hB
  have hback : ∀ i o, l[i]? = some o → ∀ j ∈ flowPreds o, j < i := by
    intro i o hi j hj
    have := hB.1 (o, i) (List.mem_zipIdx_iff_getElem?.2 hi)
    simp only [decide_eq_true_eq] at this
    exact this j hj
  have hdist : ∀ (i : Nat) (o : Oper), l[i]? = some o → ∀ (j : Nat) (o' : Oper), l[j]? = some o' → j ≠ i → ∀ x, o.dst = some x → o'.dst ≠ some x := by
    intro i o hi j o' hj hne x hx hx'
    have := hB.2 (o, i) (List.mem_zipIdx_iff_getElem?.2 hi) (o', j) (List.mem_zipIdx_iff_getElem?.2 hj)
    simp [hx, hx'] at this
    omega
  have main : ∀ (fuel n : Nat) (listed : Array Bool) (u : Nat → Value) (x : World), n + fuel = l.length → listed.size = l.length → C n x → (∀ i, i < l.length → listed.getD i false = true → φ i (u i) x) →
      (∀ i o, l[i]? = some o → listed.getD i false = false → ∀ d, o.dst = some d → u i = a.tmps.getD d undef) → (∀ j o, l[j]? = some o → listed.getD j false = true → ∀ i ∈ flowPreds o, listed.getD i false = true) →
      (l.length ≤ fuel + ((List.range l.length).filter fun i => listed.getD i false).length) →
      wpAny P .any l.toArray Q fuel listed (flowAct a u 0 l) x := by
    intro fuel
    have allListed : ∀ (listed : Array Bool), listed.size = l.length → Region.ready .any l.toArray listed = [] → ∀ i, i < l.length → listed.getD i false = true := by
      intro listed hsz hr i
      induction i using Nat.strongRecOn with
      | _ i ih =>
        intro hi
        cases hl : listed.getD i false with
        | true => rfl
        | false =>
          have hmem : i ∈ Region.ready .any l.toArray listed := by
            unfold Region.ready
            rw [List.mem_filter]
            refine ⟨by simpa using hi, ?_⟩
            have ho : l[i]? = some l[i] := List.getElem?_eq_getElem hi
            have h1 : listed.getD i true = false := by
              have hlt : i < listed.size := by omega
              rw [Array.getD_eq_getD_getElem?, Array.getElem?_eq_getElem hlt] at hl ⊢
              simpa using hl
            simp only [List.getElem?_toArray, ho, Option.map_some, Option.getD_some, h1, Bool.not_false, Bool.true_and]
            rw [← Array.all_toList, List.all_eq_true]
            intro e he
            cases hb : Region.binds .any e with
            | false => simp
            | true =>
              have hj : e.on ∈ flowPreds l[i] := List.mem_map.2 ⟨e, List.mem_filter.2 ⟨he, hb⟩, rfl⟩
              have hlt := hback i _ ho _ hj
              simp only [Bool.not_true, Bool.false_or]
              exact ih e.on hlt (by omega)
          rw [hr] at hmem
          cases hmem
    induction fuel with
    | zero =>
      intro n listed u x hnf hsz hCx hf huw hcl hcount
      have hall : ∀ i, i < l.length → listed.getD i false = true := by
        intro i hi
        cases hl : listed.getD i false with
        | true => rfl
        | false =>
          have hlen : ((List.range l.length).filter fun i => listed.getD i false).length < l.length := by
            have h1 := (List.length_filter_lt_length_iff_exists (p := fun i => listed.getD i false) (l := List.range l.length)).2 ⟨i, by simpa using hi, by simp [hl]⟩
            rwa [List.length_range] at h1
          omega
      refine ⟨?_, hend n u x (by omega) hCx fun i hi => hf i hi (hall i hi)⟩
      unfold Region.ready
      rw [List.filter_eq_nil_iff]
      intro i hi
      have hi' : i < l.length := by simpa using hi
      have h1 : listed.getD i true = true := by
        have := hall i hi'
        have hlt : i < listed.size := by omega
        rw [Array.getD_eq_getD_getElem?, Array.getElem?_eq_getElem hlt] at this ⊢
        simpa using this
      simp [h1]
    | succ fuel ih =>
      intro n listed u x hnf hsz hCx hf huw hcl hcount
      refine ⟨fun hr => hend n u x (by omega) hCx fun i hi => hf i hi (allListed listed hsz hr i hi), fun i hi => ?_⟩
      unfold Region.ready at hi
      rw [List.mem_filter] at hi
      obtain ⟨hi1, hi2⟩ := hi
      have hil : i < l.length := by simpa using hi1
      have ho : l[i]? = some l[i] := List.getElem?_eq_getElem hil
      simp only [List.getElem?_toArray, ho, Option.map_some, Option.getD_some, Bool.and_eq_true] at hi2
      obtain ⟨hun, hedges⟩ := hi2
      have hnl : listed.getD i false = false := by
        have hlt : i < listed.size := by omega
        rw [Array.getD_eq_getD_getElem?, Array.getElem?_eq_getElem hlt] at hun ⊢
        simpa using hun
      have hpre : ∀ j ∈ flowPreds l[i], φ j (u j) x := by
        intro j hj
        obtain ⟨e, he, rfl⟩ := List.mem_map.1 hj
        obtain ⟨he1, he2⟩ := List.mem_filter.1 he
        have hlt := hback i _ ho _ hj
        rw [← Array.all_toList, List.all_eq_true] at hedges
        have := hedges e he1
        simp only [he2, Bool.not_true, Bool.false_or] at this
        exact hf e.on (by omega) this
      have hpl : ∀ k ∈ flowPreds l[i], listed.getD k false = true := by
        intro k hk
        obtain ⟨e, he, rfl⟩ := List.mem_map.1 hk
        obtain ⟨he1, he2⟩ := List.mem_filter.1 he
        rw [← Array.all_toList, List.all_eq_true] at hedges
        have := hedges e he1
        simpa only [he2, Bool.not_true, Bool.false_or] using this
      have hs := hstep i _ ho n u x (by omega) hCx hpre (fun j o' hj hij d hd => by
        refine huw j o' hj ?_ d hd
        cases hl : listed.getD j false with
        | false => rfl
        | true =>
          have := hcl j o' hj hl i hij
          rw [hnl] at this
          cases this)
      have next : ∀ v y, T n x y ∧ φ i v y → wpAny P .any l.toArray Q fuel (listed.setIfInBounds i true) ((flowAct a u 0 l).put l[i].dst v) y := by
        intro v y ⟨hTxy, hv⟩
        have he := flowAct_upd u v l 0 a i l[i] ho (hdist i _ ho)
        rw [Nat.zero_add] at he
        rw [← he]
        refine ih (n + 1) (listed.setIfInBounds i true) (upd u i v) y (by omega) (by simpa using hsz) (hT _ _ _ hTxy hCx) (fun j hj hl => ?_) (fun j o' hj hl d hd => ?_) (fun j o' hj hl k hk => ?_) ?_
        · by_cases hji : j = i
          · subst hji
            simpa [upd] using hv
          · have : listed.getD j false = true := by
              rw [Array.getD_eq_getD_getElem?, Array.getElem?_setIfInBounds_ne (fun e => hji e.symm)] at hl
              rwa [Array.getD_eq_getD_getElem?]
            simpa [upd, hji] using hφ _ _ _ hTxy hCx j _ (hf j hj this)
        · by_cases hji : j = i
          · subst hji
            rw [Array.getD_eq_getD_getElem?, Array.getElem?_setIfInBounds_self_of_lt (by omega)] at hl
            cases hl
          · rw [Array.getD_eq_getD_getElem?, Array.getElem?_setIfInBounds_ne (fun e => hji e.symm), ← Array.getD_eq_getD_getElem?] at hl
            simpa [upd, hji] using huw j o' hj hl d hd
        · have hkl : listed.getD k false = true := by
            by_cases hji : j = i
            · subst hji
              rw [ho] at hj
              injection hj with hj
              subst hj
              exact hpl k hk
            · rw [Array.getD_eq_getD_getElem?, Array.getElem?_setIfInBounds_ne (fun e => hji e.symm), ← Array.getD_eq_getD_getElem?] at hl
              exact hcl j o' hj hl k hk
          by_cases hki : k = i
          · subst hki
            rw [Array.getD_eq_getD_getElem?, Array.getElem?_setIfInBounds_self_of_lt (by omega)]
            rfl
          · rw [Array.getD_eq_getD_getElem?, Array.getElem?_setIfInBounds_ne (fun e => hki e.symm), ← Array.getD_eq_getD_getElem?]
            exact hkl
        · have hc : ((List.range l.length).filter fun k => listed.getD k false).length + 1 ≤ ((List.range l.length).filter fun k => (listed.setIfInBounds i true).getD k false).length := by
            have hsub : ((List.range l.length).filter fun k => (listed.setIfInBounds i true).getD k false).countP (fun k => k ≠ i) = ((List.range l.length).filter fun k => listed.getD k false).countP (fun k => k ≠ i) := by
              rw [List.countP_filter, List.countP_filter]
              refine List.countP_congr fun k hk => ?_
              by_cases hki : k = i
              · simp [hki]
              · rw [Array.getD_eq_getD_getElem?, Array.getElem?_setIfInBounds_ne (fun e => hki e.symm), Array.getD_eq_getD_getElem?]
            have hold : ((List.range l.length).filter fun k => listed.getD k false).countP (fun k => k ≠ i) = ((List.range l.length).filter fun k => listed.getD k false).length := by
              rw [List.countP_eq_length]
              intro k hk
              have := (List.mem_filter.1 hk).2
              simp
              rintro rfl
              simp [hnl] at this
            have hlt : ((List.range l.length).filter fun k => (listed.setIfInBounds i true).getD k false).countP (fun k => k ≠ i) < ((List.range l.length).filter fun k => (listed.setIfInBounds i true).getD k false).length := by
              refine Nat.lt_of_le_of_ne List.countP_le_length (fun e => ?_)
              rw [List.countP_eq_length] at e
              have him : i ∈ (List.range l.length).filter fun k => (listed.setIfInBounds i true).getD k false := by
                rw [List.mem_filter]
                refine ⟨by simpa using hil, ?_⟩
                have hlt' : i < listed.size := by omega
                rw [Array.getD_eq_getD_getElem?, Array.getElem?_setIfInBounds_self_of_lt hlt']
                rfl
              have := e i him
              simp at this
            omega
          omega
      unfold wpOp
      simp only [List.getElem?_toArray, ho]
      unfold flowOp at hs
      by_cases hw : Region.wanted l[i] (yielded l.toArray (flowAct a u 0 l).tmps) = true
      · rw [if_pos hw] at hs ⊢
        refine .inl ?_
        unfold Oper.wp
        generalize (execOp (flowAct a u 0 l).eval l[i]).run P x = r at hs ⊢
        cases r with
        | ok n y =>
          cases n <;> simp only [flowUpon] at hs <;> simp only [Oper.upon]
          case value v => exact next _ _ hs
          case skip => exact next _ _ hs
          case enter f args =>
            exact hs.mono fun e y' ⟨v, hv, h⟩ => by subst hv; exact next _ _ h
        | halt h y => simp only [flowUpon] at hs
      · rw [if_neg hw] at hs ⊢
        exact next _ _ hs
  refine wp_region_any hm ?_
  have h0 : flowAct a (fun j => match l[j]? with | some o => (match o.dst with | some d => a.tmps.getD d undef | none => undef) | none => undef) 0 l = a := by
    refine flowAct_self a _ l 0 (fun j o hj d hd => ?_)
    simp [hj, hd]
  have := main l.length 0 (Array.replicate l.length false) (fun j => match l[j]? with | some o => (match o.dst with | some d => a.tmps.getD d undef | none => undef) | none => undef) w.drew (by omega) (by simp) hC (fun i hi h => by
    exfalso
    rw [Array.getD_eq_getD_getElem?, Array.getElem?_replicate] at h
    simp [hi] at h) (fun i o hi _ d hd => by simp [hi, hd]) (fun j o hj hl => by
    exfalso
    have hjl := (List.getElem?_eq_some_iff.1 hj).1
    rw [Array.getD_eq_getD_getElem?, Array.getElem?_replicate] at hl
    simp [hjl] at hl) (by omega)
  rw [h0] at this
  simpa using this

/-- The operations one by one. -/
def flowAll2 (P : Program) (ops : List Oper) (C : Nat → World → Prop) (T : Nat → World → World → Prop) (φ : Nat → Value → World → Prop) (a : Act) : Nat → List Oper → Prop
  | _, [] => True
  | k, o :: l => (∀ (n : Nat) (u : Nat → Value) (x : World), n < ops.length → C n x → (∀ j ∈ flowPreds o, φ j (u j) x) → (∀ j o', ops[j]? = some o' → k ∈ flowPreds o' → ∀ d, o'.dst = some d → u j = a.tmps.getD d undef) → flowOp P ops.toArray o (flowAct a u 0 ops) x (fun v y => T n x y ∧ φ k v y)) ∧ flowAll2 P ops C T φ a (k + 1) l
theorem flowAll2_at {ops : List Oper} {C : Nat → World → Prop} {T : Nat → World → World → Prop} {φ : Nat → Value → World → Prop} {a : Act} : ∀ (l : List Oper) (k : Nat), flowAll2 P ops C T φ a k l → ∀ i o, l[i]? = some o →
    ∀ (n : Nat) (u : Nat → Value) (x : World), n < ops.length → C n x → (∀ j ∈ flowPreds o, φ j (u j) x) → (∀ j o', ops[j]? = some o' → k + i ∈ flowPreds o' → ∀ d, o'.dst = some d → u j = a.tmps.getD d undef) → flowOp P ops.toArray o (flowAct a u 0 ops) x (fun v y => T n x y ∧ φ (k + i) v y)
  | [], _, _, i, o, h => by simp at h
  | o1 :: l, k, hh, 0, o, h => by
    simp at h
    subst h
    exact hh.1
  | o1 :: l, k, hh, i + 1, o, h => by
    rw [show k + (i + 1) = k + 1 + i from by omega]
    exact flowAll2_at l (k + 1) hh.2 i o (by simpa using h)
theorem wp_flow2 {id : Nat} {l : List Oper} {a : Act} {w : World} (hm : P.follows .mixedOrders = true) (hB : flowB l = true)
    (C : Nat → World → Prop) (T : Nat → World → World → Prop) (φ : Nat → Value → World → Prop)
    (hC : C 0 w.drew)
    (hT : ∀ n x y, T n x y → C n x → C (n + 1) y)
    (hφ : ∀ n x y, T n x y → C n x → ∀ i v, φ i v x → φ i v y)
    (hstep : flowAll2 P l C T φ a 0 l)
    (hend : ∀ (n : Nat) (u : Nat → Value) (x : World), n ≤ l.length → C n x → (∀ i, i < l.length → φ i (u i) x) → Q .normal (flowAct a u 0 l) x) :
    (Code.region id l.toArray true).wp P Q a w :=
  wp_region_flow2 hm hB C T φ hC hT hφ (fun i o hi n u x hn hC hp hu => by have := flowAll2_at l 0 hstep i o hi n u x hn hC hp (by rw [Nat.zero_add]; exact hu); rwa [Nat.zero_add] at this)
    hend
end
/-- All values known ahead. -/
theorem wp_known2 {P : Program} {Q : Exit → Act → World → Prop} {id : Nat} {l : List Oper} {a : Act} {w : World} (w0 : World) (vals : List Value) (hw : w0.grownBy w none) (hm : P.follows .mixedOrders = true) (hB : flowB l = true)
    (hstep : flowAll2 P l (PC w0) PT (fKnown vals) a 0 l)
    (hend : ∀ (u : Nat → Value) (x : World), w0.grownBy x none → (∀ i, i < l.length → u i = vals.getD i undef) → Q .normal (flowAct a u 0 l) x) :
    (Code.region id l.toArray true).wp P Q a w :=
  wp_flow2 hm hB (PC w0) PT (fKnown vals) (gb_drew hw) (fun n x y h k => gb_trans k h) (fun n x y _ _ i v h => h) hstep (fun n u x _ hC hp => hend u x hC hp)
end Go.Proofs.YtipnalfkpalieaaDoor
