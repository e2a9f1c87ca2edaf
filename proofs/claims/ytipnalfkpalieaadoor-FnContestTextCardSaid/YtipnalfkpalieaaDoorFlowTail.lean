/-
  A region that draws its order and whose last operations can only come last, in the order of the text: the first N as in the law of XFlow, the rest walked as they stand. Over any program.
-/
import Derived.Test.YtipnalfkpalieaaDoorFlow
namespace Go.Proofs.YtipnalfkpalieaaDoor
open Go.RowKit
set_option linter.unusedVariables false

/-- For each operation those that must have run when it comes up. -/
def mkCert (l : List Oper) : List (List Nat) := l.foldl (fun acc o => acc ++ [((flowPreds o) ++ (flowPreds o).flatMap (fun j => acc.getD j [])).eraseDups]) []
def certB (l : List Oper) (cert : List (List Nat)) (N : Nat) : Bool :=
  (l.zipIdx.all fun (o, i) => (cert.getD i []).all fun j => (flowPreds o).contains j || (flowPreds o).any fun k => (cert.getD k []).contains j) &&
  ((List.range l.length).all fun i => decide (i < N) || (List.range i).all fun j => (cert.getD i []).contains j) && decide (N ≤ l.length)

theorem certB_spec {l : List Oper} {cert : List (List Nat)} {N : Nat} (h : certB l cert N = true) (hback : ∀ i o, l[i]? = some o → ∀ j ∈ flowPreds o, j < i) :
    N ≤ l.length ∧ ∀ (listed : Nat → Prop), (∀ i o, l[i]? = some o → listed i → ∀ j ∈ flowPreds o, listed j) → ∀ i o, l[i]? = some o → N ≤ i → (∀ j ∈ flowPreds o, listed j) → ∀ j, j < i → listed j := by
  simp only [certB, Bool.and_eq_true, List.all_eq_true, decide_eq_true_eq, Bool.or_eq_true, List.contains_iff_mem, List.any_eq_true, List.mem_range] at h
  obtain ⟨⟨h1, h2⟩, h3⟩ := h
  refine ⟨h3, fun listed hcl i o hi hN hp j hj => ?_⟩
  have key : ∀ k, k < l.length → listed k → ∀ j ∈ cert.getD k [], listed j := by
    intro k
    induction k using Nat.strongRecOn with
    | _ k ih =>
      intro hk hlk j hj
      have ho : l[k]? = some l[k] := List.getElem?_eq_getElem hk
      rcases h1 (l[k], k) (List.mem_zipIdx_iff_getElem?.2 ho) j hj with h | ⟨m, hm, hmj⟩
      · exact hcl k _ ho hlk j h
      · have hmk := hback k _ ho m hm
        exact ih m hmk (by omega) (hcl k _ ho hlk m hm) j hmj
  have hil : i < l.length := (List.getElem?_eq_some_iff.1 hi).1
  rcases h2 i hil with h | h
  · omega
  · have hc := h j hj
    rcases h1 (o, i) (List.mem_zipIdx_iff_getElem?.2 hi) j hc with h | ⟨m, hm, hmj⟩
    · exact hp j h
    · have hmi := hback i _ hi m hm
      exact key m (by omega) (hp m hm) j hmj

section
variable {P : Program} {Q : Exit → Act → World → Prop}

theorem tail_any {l : List Oper} (hback : ∀ i o, l[i]? = some o → ∀ j ∈ flowPreds o, j < i) {N : Nat}
    (hcov : ∀ (listed : Nat → Prop), (∀ i o, l[i]? = some o → listed i → ∀ j ∈ flowPreds o, listed j) → ∀ i o, l[i]? = some o → N ≤ i → (∀ j ∈ flowPreds o, listed j) → ∀ j, j < i → listed j) :
    ∀ (m fuel k : Nat) (listed : Array Bool) (a : Act) (w : World), N ≤ k → k + m = l.length → m ≤ fuel → listed.size = l.length → (∀ i, i < l.length → (listed.getD i false = true ↔ i < k)) →
      wpList P l.toArray Q (l.drop k) a w → wpAny P .any l.toArray Q fuel listed a w := by
  intro m
  have getT : ∀ (listed : Array Bool) (i : Nat), i < listed.size → listed.getD i true = listed.getD i false := by
    intro listed i hi
    rw [Array.getD_eq_getD_getElem?, Array.getD_eq_getD_getElem?, Array.getElem?_eq_getElem hi]
    rfl
  induction m with
  | zero =>
    intro fuel k listed a w hN hk hf hsz hl h
    have hnil : l.drop k = [] := List.drop_eq_nil_of_le (by omega)
    rw [hnil] at h
    refine wpAny_done ?_ h fuel
    unfold Region.ready
    rw [List.filter_eq_nil_iff]
    intro i hi
    have hi' : i < l.length := by simpa using hi
    rw [getT listed i (by omega), (hl i hi').2 (by omega)]
    simp
  | succ m ih =>
    intro fuel k listed a w hN hk hf hsz hl h
    obtain ⟨fuel, rfl⟩ : ∃ f, fuel = f + 1 := ⟨fuel - 1, by omega⟩
    have hkl : k < l.length := by omega
    have hok : l[k]? = some l[k] := List.getElem?_eq_getElem hkl
    rw [List.drop_eq_getElem_cons hkl] at h
    have hready : ∀ i, i ∈ Region.ready .any l.toArray listed → i = k := by
      intro i hi
      unfold Region.ready at hi
      rw [List.mem_filter] at hi
      obtain ⟨hi1, hi2⟩ := hi
      have hil : i < l.length := by simpa using hi1
      have ho : l[i]? = some l[i] := List.getElem?_eq_getElem hil
      simp only [List.getElem?_toArray, ho, Option.map_some, Option.getD_some, Bool.and_eq_true, Bool.not_eq_true'] at hi2
      obtain ⟨hun, hedges⟩ := hi2
      rw [getT listed i (by omega)] at hun
      have hik : ¬ i < k := fun hlt => by rw [(hl i hil).2 hlt] at hun; cases hun
      have hp : ∀ j ∈ flowPreds l[i], j < k := by
        intro j hj
        obtain ⟨e, he, rfl⟩ := List.mem_map.1 hj
        obtain ⟨he1, he2⟩ := List.mem_filter.1 he
        rw [← Array.all_toList, List.all_eq_true] at hedges
        have := hedges e he1
        simp only [he2, Bool.not_true, Bool.false_or] at this
        exact (hl e.on (by have := hback i _ ho _ hj; omega)).1 this
      have hall := hcov (fun j => j < k) (fun i' o' hi' hlt j hj => Nat.lt_trans (hback i' o' hi' j hj) hlt) i _ ho (by omega) hp
      rcases Nat.lt_or_ge k i with hlt | hge
      · exact absurd (hall k hlt) (by omega)
      · omega
    have hkr : k ∈ Region.ready .any l.toArray listed := by
      unfold Region.ready
      rw [List.mem_filter]
      refine ⟨by simpa using hkl, ?_⟩
      have hun : listed.getD k false = false := by
        cases hc : listed.getD k false with
        | false => rfl
        | true => have := (hl k hkl).1 hc; omega
      simp only [List.getElem?_toArray, hok, Option.map_some, Option.getD_some, getT listed k (by omega), hun, Bool.not_false, Bool.true_and]
      rw [← Array.all_toList, List.all_eq_true]
      intro e he
      cases hb : Region.binds .any e with
      | false => simp
      | true =>
        have hj : e.on ∈ flowPreds l[k] := List.mem_map.2 ⟨e, List.mem_filter.2 ⟨he, hb⟩, rfl⟩
        have hlt := hback k _ hok _ hj
        simp only [Bool.not_true, Bool.false_or]
        exact (hl e.on (by omega)).2 hlt
    refine ⟨fun hr => (by rw [hr] at hkr; cases hkr), fun i hi => ?_⟩
    obtain rfl := hready i hi
    have next : ∀ a' w', wpList P l.toArray Q (l.drop (i + 1)) a' w' → wpAny P .any l.toArray Q fuel (listed.setIfInBounds i true) a' w' := by
      intro a' w' h'
      refine ih fuel (i + 1) _ a' w' (by omega) (by omega) (by omega) (by simpa using hsz) (fun j hj => ?_) h'
      by_cases hji : j = i
      · subst hji
        rw [Array.getD_eq_getD_getElem?, Array.getElem?_setIfInBounds_self_of_lt (by omega)]
        simp
      · rw [Array.getD_eq_getD_getElem?, Array.getElem?_setIfInBounds_ne (fun e => hji e.symm), ← Array.getD_eq_getD_getElem?, hl j hj]
        omega
    unfold wpOp
    simp only [List.getElem?_toArray, hok]
    simp only [wpList] at h
    split
    · rename_i hw
      rw [if_pos hw] at h
      exact h.imp (Oper.wp_mono next) id
    · rename_i hw
      rw [if_neg hw] at h
      exact next _ _ h

/-- The operations ahead of the tail, one by one. -/
def flowHead (P : Program) (l fl : List Oper) (C : Nat → World → Prop) (T : Nat → World → World → Prop) (φ : Nat → Value → World → Prop) (a : Act) : Nat → List Oper → Prop
  | _, [] => True
  | k, o :: r => (∀ (n : Nat) (u : Nat → Value) (x : World), n < fl.length → C n x → (∀ j ∈ flowPreds o, φ j (u j) x) → flowOp P l.toArray o (flowAct a u 0 fl) x (fun v y => T n x y ∧ φ k v y)) ∧ flowHead P l fl C T φ a (k + 1) r
theorem flowHead_at {l fl : List Oper} {C : Nat → World → Prop} {T : Nat → World → World → Prop} {φ : Nat → Value → World → Prop} {a : Act} : ∀ (r : List Oper) (k : Nat), flowHead P l fl C T φ a k r → ∀ i o, r[i]? = some o →
    ∀ (n : Nat) (u : Nat → Value) (x : World), n < fl.length → C n x → (∀ j ∈ flowPreds o, φ j (u j) x) → flowOp P l.toArray o (flowAct a u 0 fl) x (fun v y => T n x y ∧ φ (k + i) v y)
  | [], _, _, i, o, h => by simp at h
  | o1 :: r, k, hh, 0, o, h => by
    simp at h
    subst h
    exact hh.1
  | o1 :: r, k, hh, i + 1, o, h => by
    rw [show k + (i + 1) = k + 1 + i from by omega]
    exact flowHead_at r (k + 1) hh.2 i o (by simpa using h)

/-- THE LAW: 'fl' the first operations, 'tl' the tail. -/
theorem wp_flow_tail {id : Nat} {l : List Oper} {a : Act} {w : World} (fl tl : List Oper) (hl : l = fl ++ tl) (hm : P.follows .mixedOrders = true) (hB : flowB l = true) (hc : certB l (mkCert l) fl.length = true)
    (C : Nat → World → Prop) (T : Nat → World → World → Prop) (φ : Nat → Value → World → Prop)
    (hC : C 0 w.drew)
    (hT : ∀ n x y, T n x y → C n x → C (n + 1) y)
    (hφ : ∀ n x y, T n x y → C n x → ∀ i v, φ i v x → φ i v y)
    (hstep : flowHead P l fl C T φ a 0 fl)
    (hend : ∀ (n : Nat) (u : Nat → Value) (x : World), n ≤ l.length → C n x → (∀ i, i < fl.length → φ i (u i) x) → wpList P l.toArray Q tl (flowAct a u 0 fl) x) :
    (Code.region id l.toArray true).wp P Q a w := by
  simp only [flowB, Bool.and_eq_true, List.all_eq_true] at hB
  have hback : ∀ i o, l[i]? = some o → ∀ j ∈ flowPreds o, j < i := by
    intro i o hi j hj
    have := hB.1 (o, i) (List.mem_zipIdx_iff_getElem?.2 hi)
    simp only [decide_eq_true_eq] at this
    exact this j hj
  have hdist : ∀ (i : Nat) (o : Oper), l[i]? = some o → ∀ (j : Nat) (o' : Oper), l[j]? = some o' → j ≠ i → ∀ x, o.dst = some x → o'.dst ≠ some x := by
    intro i o hi j o' hj hne x hx hx'
    have := hB.2 (o, i) (List.mem_zipIdx_iff_getElem?.2 hi) (o', j) (List.mem_zipIdx_iff_getElem?.2 hj)
    simp [hx, hx'] at this
    omega
  obtain ⟨hNl, hcov⟩ := certB_spec hc hback
  have hfl : ∀ (i : Nat) (o : Oper), fl[i]? = some o → l[i]? = some o := by
    intro i o h
    rw [hl, List.getElem?_append_left (List.getElem?_eq_some_iff.1 h).1]
    exact h
  have hdrop : l.drop fl.length = tl := by rw [hl, List.drop_left]
  have getT : ∀ (listed : Array Bool) (i : Nat), i < listed.size → listed.getD i true = listed.getD i false := by
    intro listed i hi
    rw [Array.getD_eq_getD_getElem?, Array.getD_eq_getD_getElem?, Array.getElem?_eq_getElem hi]
    rfl
  have atTail : ∀ (fuel n : Nat) (listed : Array Bool) (u : Nat → Value) (x : World), l.length ≤ fl.length + fuel → n ≤ l.length → listed.size = l.length → C n x →
      (∀ i, i < l.length → listed.getD i false = true → i < fl.length ∧ φ i (u i) x) → (∀ i, i < fl.length → listed.getD i false = true) → wpAny P .any l.toArray Q fuel listed (flowAct a u 0 fl) x := by
    intro fuel n listed u x hfu hn hsz hCx hf hall
    refine tail_any hback hcov (l.length - fl.length) fuel fl.length listed _ _ (Nat.le_refl _) (by omega) (by omega) hsz (fun i hi => ⟨fun h => (hf i hi h).1, hall i⟩) ?_
    rw [hdrop]
    exact hend n u x hn hCx fun i hi => (hf i (by omega) (hall i hi)).2
  have main : ∀ (fuel n : Nat) (listed : Array Bool) (u : Nat → Value) (x : World), n + fuel = l.length → listed.size = l.length → C n x → (∀ i, i < l.length → listed.getD i false = true → i < fl.length ∧ φ i (u i) x) →
      (∀ i o, l[i]? = some o → listed.getD i false = true → ∀ j ∈ flowPreds o, listed.getD j false = true) →
      n ≤ ((List.range fl.length).filter fun i => listed.getD i false).length → wpAny P .any l.toArray Q fuel listed (flowAct a u 0 fl) x := by
    intro fuel
    have allOf : ∀ (listed : Array Bool), fl.length ≤ ((List.range fl.length).filter fun i => listed.getD i false).length → ∀ i, i < fl.length → listed.getD i false = true := by
      intro listed h i hi
      cases hli : listed.getD i false with
      | true => rfl
      | false =>
        have h1 := (List.length_filter_lt_length_iff_exists (p := fun i => listed.getD i false) (l := List.range fl.length)).2 ⟨i, by simpa using hi, by simp [hli]⟩
        rw [List.length_range] at h1
        omega
    have cntLe : ∀ (listed : Array Bool), ((List.range fl.length).filter fun i => listed.getD i false).length ≤ fl.length := fun listed => by
      have := List.length_filter_le (fun i => listed.getD i false) (List.range fl.length)
      rwa [List.length_range] at this
    induction fuel with
    | zero =>
      intro n listed u x hnf hsz hCx hf hcl hcount
      have := cntLe listed
      exact atTail 0 n listed u x (by omega) (by omega) hsz hCx hf (allOf listed (by omega))
    | succ fuel ih =>
      intro n listed u x hnf hsz hCx hf hcl hcount
      by_cases hall : fl.length ≤ ((List.range fl.length).filter fun i => listed.getD i false).length
      · exact atTail (fuel + 1) n listed u x (by have := cntLe listed; omega) (by omega) hsz hCx hf (allOf listed hall)
      have hlt : n < fl.length := by omega
      refine ⟨fun hr => ?_, fun i hi => ?_⟩
      · exfalso
        apply hall
        have hallL : ∀ i, i < fl.length → listed.getD i false = true := by
          intro i
          induction i using Nat.strongRecOn with
          | _ i ihi =>
            intro hi
            cases hli : listed.getD i false with
            | true => rfl
            | false =>
              have hil : i < l.length := by omega
              have ho : l[i]? = some l[i] := List.getElem?_eq_getElem hil
              have hmem : i ∈ Region.ready .any l.toArray listed := by
                unfold Region.ready
                rw [List.mem_filter]
                refine ⟨by simpa using hil, ?_⟩
                simp only [List.getElem?_toArray, ho, Option.map_some, Option.getD_some, getT listed i (by omega), hli, Bool.not_false, Bool.true_and]
                rw [← Array.all_toList, List.all_eq_true]
                intro e he
                cases hb : Region.binds .any e with
                | false => simp
                | true =>
                  have hj : e.on ∈ flowPreds l[i] := List.mem_map.2 ⟨e, List.mem_filter.2 ⟨he, hb⟩, rfl⟩
                  have hlt' := hback i _ ho _ hj
                  simp only [Bool.not_true, Bool.false_or]
                  exact ihi e.on hlt' (by omega)
              rw [hr] at hmem
              cases hmem
        have he : (List.range fl.length).filter (fun i => listed.getD i false) = List.range fl.length := by
          rw [List.filter_eq_self]
          intro i hi
          exact hallL i (by simpa using hi)
        rw [he, List.length_range]
        exact Nat.le_refl _
      unfold Region.ready at hi
      rw [List.mem_filter] at hi
      obtain ⟨hi1, hi2⟩ := hi
      have hil : i < l.length := by simpa using hi1
      have ho : l[i]? = some l[i] := List.getElem?_eq_getElem hil
      simp only [List.getElem?_toArray, ho, Option.map_some, Option.getD_some, Bool.and_eq_true, Bool.not_eq_true'] at hi2
      obtain ⟨hun, hedges⟩ := hi2
      rw [getT listed i (by omega)] at hun
      have hpl : ∀ j ∈ flowPreds l[i], listed.getD j false = true := by
        intro j hj
        obtain ⟨e, he, rfl⟩ := List.mem_map.1 hj
        obtain ⟨he1, he2⟩ := List.mem_filter.1 he
        rw [← Array.all_toList, List.all_eq_true] at hedges
        have := hedges e he1
        simpa only [he2, Bool.not_true, Bool.false_or] using this
      have hifl : i < fl.length := by
        rcases Nat.lt_or_ge i fl.length with h | h
        · exact h
        · exfalso
          apply hall
          have hallL := hcov (fun j => listed.getD j false = true) hcl i _ ho h hpl
          have he : (List.range fl.length).filter (fun i => listed.getD i false) = List.range fl.length := by
            rw [List.filter_eq_self]
            intro j hj
            exact hallL j (by have : j < fl.length := by simpa using hj
                              omega)
          rw [he, List.length_range]
          exact Nat.le_refl _
      have hof : fl[i]? = some l[i] := by
        have := hfl i fl[i] (List.getElem?_eq_getElem hifl)
        rw [ho] at this
        rw [List.getElem?_eq_getElem hifl, this]
      have hs := flowHead_at fl 0 hstep i _ hof n u x hlt hCx (fun j hj => (hf j (by have := hback i _ ho j hj; omega) (hpl j hj)).2)
      rw [Nat.zero_add] at hs
      have next : ∀ v y, T n x y ∧ φ i v y → wpAny P .any l.toArray Q fuel (listed.setIfInBounds i true) ((flowAct a u 0 fl).put l[i].dst v) y := by
        intro v y ⟨hTxy, hv⟩
        have he := flowAct_upd u v fl 0 a i l[i] hof (fun j o' hj hne => hdist i _ ho j o' (hfl j o' hj) hne)
        rw [Nat.zero_add] at he
        rw [← he]
        have setOther : ∀ j, j ≠ i → (listed.setIfInBounds i true).getD j false = listed.getD j false := fun j hji => by
          rw [Array.getD_eq_getD_getElem?, Array.getElem?_setIfInBounds_ne (fun e => hji e.symm), ← Array.getD_eq_getD_getElem?]
        have setSelf : (listed.setIfInBounds i true).getD i false = true := by
          rw [Array.getD_eq_getD_getElem?, Array.getElem?_setIfInBounds_self_of_lt (by omega)]
          rfl
        refine ih (n + 1) (listed.setIfInBounds i true) (upd u i v) y (by omega) (by simpa using hsz) (hT _ _ _ hTxy hCx) (fun j hj hl' => ?_) (fun j o' hj hl' k hk => ?_) ?_
        · by_cases hji : j = i
          · subst hji
            exact ⟨hifl, by simpa [upd] using hv⟩
          · rw [setOther j hji] at hl'
            obtain ⟨h1, h2⟩ := hf j hj hl'
            exact ⟨h1, by simpa [upd, hji] using hφ _ _ _ hTxy hCx j _ h2⟩
        · have hkl : listed.getD k false = true := by
            by_cases hji : j = i
            · subst hji
              rw [ho] at hj
              injection hj with hj
              subst hj
              exact hpl k hk
            · rw [setOther j hji] at hl'
              exact hcl j o' hj hl' k hk
          by_cases hki : k = i
          · subst hki
            exact setSelf
          · rw [setOther k hki]
            exact hkl
        · have hsub : ((List.range fl.length).filter fun k => (listed.setIfInBounds i true).getD k false).countP (fun k => k ≠ i) = ((List.range fl.length).filter fun k => listed.getD k false).countP (fun k => k ≠ i) := by
            rw [List.countP_filter, List.countP_filter]
            refine List.countP_congr fun k hk => ?_
            by_cases hki : k = i
            · simp [hki]
            · rw [setOther k hki]
          have hold : ((List.range fl.length).filter fun k => listed.getD k false).countP (fun k => k ≠ i) = ((List.range fl.length).filter fun k => listed.getD k false).length := by
            rw [List.countP_eq_length]
            intro k hk
            have := (List.mem_filter.1 hk).2
            simp
            rintro rfl
            simp [hun] at this
          have hlt2 : ((List.range fl.length).filter fun k => (listed.setIfInBounds i true).getD k false).countP (fun k => k ≠ i) < ((List.range fl.length).filter fun k => (listed.setIfInBounds i true).getD k false).length := by
            refine Nat.lt_of_le_of_ne List.countP_le_length (fun e => ?_)
            rw [List.countP_eq_length] at e
            have him : i ∈ (List.range fl.length).filter fun k => (listed.setIfInBounds i true).getD k false := List.mem_filter.2 ⟨by simpa using hifl, setSelf⟩
            have := e i him
            simp at this
          omega
      unfold wpOp
      simp only [List.getElem?_toArray, ho]
      rw [flowOp_def] at hs
      by_cases hw : Region.wanted l[i] (yielded l.toArray (flowAct a u 0 fl).tmps) = true
      · rw [if_pos hw] at hs ⊢
        refine .inl ?_
        unfold Oper.wp
        generalize (execOp (flowAct a u 0 fl).eval l[i]).run P x = r at hs ⊢
        cases r with
        | ok n y =>
          cases n <;> simp only [flowUpon] at hs <;> simp only [Oper.upon]
          case value v => exact next _ _ hs
          case skip => exact next _ _ hs
          case enter f args =>
            exact hs.mono fun e y' ⟨v, hv, h⟩ => by subst hv; exact next _ _ h
        | halt h y => simp only [flowUpon] at hs
      · rw [if_neg hw] at hs ⊢
        exact next _ _ hs
  refine wp_region_any hm ?_
  have h0 : flowAct a (fun j => match fl[j]? with | some o => (match o.dst with | some d => a.tmps.getD d undef | none => undef) | none => undef) 0 fl = a := by
    refine flowAct_self a _ fl 0 (fun j o hj d hd => ?_)
    simp [hj, hd]
  have rep : ∀ i, (Array.replicate l.length false).getD i false = false := fun i => by
    rw [Array.getD_eq_getD_getElem?, Array.getElem?_replicate]
    split <;> rfl
  have := main l.length 0 (Array.replicate l.length false) (fun j => match fl[j]? with | some o => (match o.dst with | some d => a.tmps.getD d undef | none => undef) | none => undef) w.drew (by omega) (by simp) hC
    (fun i hi h => by rw [rep] at h; cases h) (fun i o hi h => by rw [rep] at h; cases h) (Nat.zero_le _)
  rw [h0] at this
  simpa using this
end
end Go.Proofs.YtipnalfkpalieaaDoor
