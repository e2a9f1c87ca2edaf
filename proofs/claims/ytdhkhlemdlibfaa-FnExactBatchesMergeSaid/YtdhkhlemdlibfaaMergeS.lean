/-
  BatchesMerge of the reference.
-/
import Derived.Test.YtdhkhlemdlibfaaMergeI
import Derived.Test.YtdhkhlemdlibfaaCopy
namespace Go.Proofs.Ytdhkhlemdlibfaa
open Go.RowKit
set_option linter.unusedVariables false

theorem findB_cases (l : List Bt) (id : Int) : (findB l id = -1 ∧ l.find? (fun x => x.1 == id) = none) ∨ ∃ (k : Nat) (x : Bt), findB l id = (k : Int) ∧ l[k]? = some x ∧ x.1 = id ∧ l.find? (fun x => x.1 == id) = some x := by
  unfold findB
  cases e : l.findIdx? fun b => b.1 == id with
  | none =>
    refine .inl ⟨rfl, ?_⟩
    rw [List.find?_eq_none]
    intro x hx
    have := List.findIdx?_eq_none_iff.1 e x hx
    simpa using this
  | some k =>
    obtain ⟨hk, h1, h2⟩ := List.findIdx?_eq_some_iff_getElem.1 e
    refine .inr ⟨k, l[k], rfl, List.getElem?_eq_getElem hk, by simpa using h1, ?_⟩
    rw [List.find?_eq_some_iff_getElem]
    exact ⟨h1, k, hk, rfl, fun j hj => by simpa using h2 j hj⟩
/-- What the reference takes for a number. -/
def pickB (a b : List Bt) (id : Int) : List Bt := match a.find? fun x => x.1 == id with
  | some x => [x]
  | none => (b.find? fun x => x.1 == id).toList
def specB (a b : List Bt) : Nat → List Bt
  | 0 => []
  | t + 1 => specB a b t ++ pickB a b ((t + 1 : Nat) : Int)
theorem pickB_id {a b : List Bt} {id : Int} {x : Bt} (h : x ∈ pickB a b id) : x.1 = id := by
  unfold pickB at h
  split at h
  · rename_i y hy
    rw [List.mem_singleton.1 h]
    simpa using List.find?_some hy
  · rw [Option.mem_toList] at h
    simpa using List.find?_some h
theorem pickB_sub {a b : List Bt} {id : Int} {x : Bt} (h : x ∈ pickB a b id) : x ∈ a ∨ x ∈ b := by
  unfold pickB at h
  split at h
  · rename_i y hy
    rw [List.mem_singleton.1 h]
    exact .inl (List.mem_of_find?_eq_some hy)
  · rw [Option.mem_toList] at h
    exact .inr (List.mem_of_find?_eq_some h)
theorem pickB_len (a b : List Bt) (id : Int) : (pickB a b id).length ≤ 1 := by
  unfold pickB
  split
  · simp
  · cases b.find? fun x => x.1 == id <;> simp
theorem specB_len (a b : List Bt) (t : Nat) : (specB a b t).length ≤ t := by
  induction t with
  | zero => simp [specB]
  | succ t ih =>
    have := pickB_len a b ((t + 1 : Nat) : Int)
    rw [specB, List.length_append]
    omega
theorem specB_id {a b : List Bt} {t : Nat} {x : Bt} (h : x ∈ specB a b t) : x.1 ≤ t := by
  induction t with
  | zero => simp [specB] at h
  | succ t ih =>
    rw [specB] at h
    rcases List.mem_append.1 h with h | h
    · have := ih h; omega
    · have := pickB_id h; omega
theorem specB_sub {a b : List Bt} {t : Nat} {x : Bt} (h : x ∈ specB a b t) : x ∈ a ∨ x ∈ b := by
  induction t with
  | zero => simp [specB] at h
  | succ t ih =>
    rw [specB] at h
    rcases List.mem_append.1 h with h | h
    · exact ih h
    · exact pickB_sub h
theorem specB_asc (a b : List Bt) (t : Nat) : AscB (specB a b t) := by
  induction t with
  | zero => simp [specB, AscB]
  | succ t ih =>
    rw [specB]
    unfold AscB at ih ⊢
    rw [List.pairwise_append]
    refine ⟨ih, ?_, fun x hx y hy => ?_⟩
    · have := pickB_len a b ((t + 1 : Nat) : Int)
      match e : pickB a b ((t + 1 : Nat) : Int), this with
      | [], _ => simp
      | [x], _ => simp
      | _ :: _ :: _, h => simp at h
    · have h1 := specB_id hx
      have h2 := pickB_id hy
      omega
theorem pickB_left {a b : List Bt} (ha : AscB a) {x : Bt} (hx : x ∈ a) : pickB a b x.1 = [x] := by
  unfold pickB
  cases e : a.find? fun y => y.1 == x.1 with
  | none =>
    have := List.find?_eq_none.1 e x hx
    simp at this
  | some y =>
    have h1 := List.find?_some e
    rw [ascB_inj ha (List.mem_of_find?_eq_some e) hx (by simpa using h1)]
theorem specB_has {a b : List Bt} {t : Nat} {id : Int} {x : Bt} (h0 : 1 ≤ id) (h1 : id ≤ t) (h : x ∈ pickB a b id) : x ∈ specB a b t := by
  induction t with
  | zero => omega
  | succ t ih =>
    rw [specB]
    by_cases e : id = ((t + 1 : Nat) : Int)
    · subst e
      exact List.mem_append_right _ h
    · exact List.mem_append_left _ (ih (by omega))
/-- Where all numbers agree, the reference's list is the merged one. -/
theorem specB_eq {a b : List Bt} (ha : AscB a) (hb : AscB b) (hg : Agree a b) (h1 : ∀ x ∈ a, 1 ≤ x.1 ∧ x.1 ≤ 99) (h2 : ∀ x ∈ b, 1 ≤ x.1 ∧ x.1 ≤ 99) : specB a b 99 = mgB a b :=
  ascB_ext (specB_asc a b 99) (mgB_asc ha) (fun z => by
    rw [mgB_mem hb hg]
    refine ⟨specB_sub, fun h => ?_⟩
    rcases h with h | h
    · exact specB_has (h1 z h).1 (h1 z h).2 (by rw [pickB_left ha h]; simp)
    · refine specB_has (h2 z h).1 (h2 z h).2 ?_
      unfold pickB
      cases e : a.find? fun y => y.1 == z.1 with
      | some y =>
        have h3 := List.find?_some e
        rw [hg y (List.mem_of_find?_eq_some e) z h (by simpa using h3)]
        simp
      | none =>
        have h4 := pickB_left (b := []) hb h
        unfold pickB at h4
        cases e2 : b.find? fun y => y.1 == z.1 with
        | none => rw [e2] at h4; simp at h4
        | some y => rw [e2] at h4; simpa using h4.symm)
theorem btOK_id {x : Bt} (h : btOK x = true) : 1 ≤ x.1 ∧ x.1 ≤ 99 := by
  unfold btOK at h
  simp only [inB, Bool.and_eq_true, decide_eq_true_eq] at h
  omega

theorem agree_at {a b : List Bt} {id : Int} (ha : AscB a) (hb : AscB b) (h : ∀ x y, a.find? (fun x => x.1 == id) = some x → b.find? (fun x => x.1 == id) = some y → x = y) : ∀ x ∈ a, ∀ y ∈ b, x.1 = id → y.1 = id → x = y := by
  intro x hx y hy e1 e2
  cases e : a.find? (fun x => x.1 == id) with
  | none => have := List.find?_eq_none.1 e x hx; simp [e1] at this
  | some x0 =>
    cases e' : b.find? (fun x => x.1 == id) with
    | none => have := List.find?_eq_none.1 e' y hy; simp [e2] at this
    | some y0 =>
      have h1 := List.find?_some e
      have h2 := List.find?_some e'
      have h3 := ascB_inj ha (List.mem_of_find?_eq_some e) hx (by simp at h1; omega)
      have h4 := ascB_inj hb (List.mem_of_find?_eq_some e') hy (by simp at h2; omega)
      rw [← h3, ← h4]
      exact h x0 y0 e e'

attribute [local go_sem] flowAct flowOp_def flowUpon
set_option maxHeartbeats 2000000 in
theorem c_l43Same (lo lo' : Nat) (A B : Option Addr) (n cap m cap' : Nat) (i1 o1 i2 o2 : Int) (xs ys : List Pl) (w : World) (h : Piles w lo A n cap xs) (h' : Piles w lo' B m cap' ys) :
    Calls Try.prog 31 #[.agg #[.int .i64 i1, .int .i64 o1, .slice A n cap], .agg #[.int .i64 i2, .int .i64 o2, .slice B m cap']] w fun e w' => e = .returned (.bool (decide ((i1, o1, xs) = ((i2, o2, ys) : Bt)))) ∧ w.grownBy w' none := by
  have hlc := h.1
  have hcm := Sl.max h
  have hxl := Lib.hid h.len
  have hlc' := h'.1
  have hcm' := Sl.max h'
  have hyl := Lib.hid h'.len
  have hB0 := (Blk.new w 34 #[.int .i64 i1, .int .i64 o1, .slice A n cap]).alloc (.cells #[.int .i64 i2, .int .i64 o2, .slice B m cap'] 34)
  have hB1 := Blk.new (w.alloc (.cells #[.int .i64 i1, .int .i64 o1, .slice A n cap] 34)) 34 #[.int .i64 i2, .int .i64 o2, .slice B m cap']
  rw [World.size_alloc] at hB1
  have c00 := hB0.cell 0
  have c01 := hB0.cell 1
  have c02 := hB0.cell 2
  have c10 := hB1.cell 0
  have c11 := hB1.cell 1
  have c12 := hB1.cell 2
  have hga : w.grownBy ((w.alloc (.cells #[.int .i64 i1, .int .i64 o1, .slice A n cap] 34)).alloc (.cells #[.int .i64 i2, .int .i64 o2, .slice B m cap'] 34)) none := gb_alloc (gb_alloc (gb_refl _ _) _) _
  clear hB0 hB1
  by_cases hi : i1 = i2
  · subst hi
    have e0 : (i1 != i1) = false := by simp
    by_cases ho : o1 = o2
    · subst ho
      have e1 : (o1 != o1) = false := by simp
      by_cases hnm : n = m
      · subst hnm
        have e2 : ((n : Int) != (n : Int)) = false := by simp
        obtain ⟨W2, hW2⟩ : ∃ W2, ((w.alloc (.cells #[.int .i64 i1, .int .i64 o1, .slice A n cap] 34)).alloc (.cells #[.int .i64 i1, .int .i64 o1, .slice B n cap'] 34)) = W2 := ⟨_, rfl⟩
        have HW2 := Lib.hid hW2
        clear hW2
        go_enter Try.func31, Try.ntmps31
        go_wp2
        go_loopw [5] (fun i wr => ∃ k : Nat, k ≤ n ∧ i = .int .i64 k ∧ W2.grownBy wr none ∧ Hid (xs.take k = ys.take k)) (fun i _ => n - (intOf i).toNat)
        case atStart => exact ⟨0, Nat.zero_le _, rfl, by rw [← HW2.out]; exact gb_refl _ _, Lib.hid rfl⟩
        case round =>
          obtain ⟨k, hk, rfl, hG, hpre⟩ := hrel
          rename World => wr
          rw [HW2.out] at c02 c12 hga
          have d02 := gb_cell hG c02 (by simp)
          have d12 := gb_cell hG c12 (by simp)
          have hGw := gb_trans hga hG
          clear c00 c01 c02 c10 c11 c12
          by_cases hlt : k < n
          · obtain ⟨b, off, ⟨s, p⟩, rfl, _, _, hz, m0, m1⟩ := Piles.at_ (Piles.keep0 h hGw) hlt
            obtain ⟨b', off', ⟨t, q⟩, rfl, _, _, hz', m0', m1'⟩ := Piles.at_ (Piles.keep0 h' hGw) hlt
            have hk' : (k : Int) < (n : Int) := by omega
            have hk0 : (0 : Int) ≤ (k : Int) := by omega
            by_cases hst : s = t ∧ p = q
            · obtain ⟨rfl, rfl⟩ := hst
              have hh1 : (s.toList == s.toList) = true := by simp
              have hh2 : (p == p) = true := by simp
              go_wp2_with fail
              go_quiet (fail)
              go_wp2
              go_roundw
              case rel => exact ⟨k + 1, by omega, by go_num, gb_drewN hG _, Lib.hid (by rw [take_succ_of hz.out, take_succ_of hz'.out, hpre.out])⟩
              case measure => simp [intOf]; omega
            · have Hst := Lib.hid hst
              have hend : Hid (decide ((i1, o1, xs) = ((i1, o1, ys) : Bt)) = false) := Lib.hid (decide_eq_false (fun e => Hst.out (by
                injection e with e3 e4
                injection e4 with e5 e6
                subst e6
                have := hz.out.symm.trans hz'.out
                injection this with this
                injection this with h1 h2
                exact ⟨h1, h2⟩)))
              by_cases h1 : s = t
              · have h2 : (p == q) = false := beq_eq_false_iff_ne.2 (fun e => hst ⟨h1, e⟩)
                have h3 : (s.toList == t.toList) = true := by rw [h1]; simp
                have H1 := Lib.hid h1
                clear h1 hst
                go_wp2_with fail
                go_quiet (fail)
                go_wp2
                go_ret
                exact ⟨ret_bool hend.out.symm, gb_drewN hGw _⟩
              · have h3 : (s.toList == t.toList) = false := str_ne h1
                clear h1 hst
                go_wp2_with fail
                go_quiet (fail)
                go_wp2
                go_ret
                exact ⟨ret_bool hend.out.symm, gb_drewN hGw _⟩
          · obtain rfl : k = n := by omega
            go_wp2
            go_ret
            exact ⟨ret_bool (decide_eq_true (by have := hpre.out; rw [List.take_of_length_le (by rw [hxl.out]; exact Nat.le_refl _), List.take_of_length_le (by rw [hyl.out]; exact Nat.le_refl _)] at this; rw [this])).symm, hGw⟩
      · have hne : ((n : Int) != (m : Int)) = true := by rw [bne_iff_ne]; omega
        go_enter Try.func31, Try.ntmps31
        go_wp2
        go_ret
        exact ⟨ret_bool (decide_eq_false (fun e => hnm (by injection e with e3 e4; injection e4 with e5 e6; rw [← hxl.out, ← hyl.out, e6]))).symm, hga⟩
    · have e1 : (o1 != o2) = true := bne_iff_ne.2 ho
      have Ho := Lib.hid ho
      clear ho
      go_enter Try.func31, Try.ntmps31
      go_wp2
      go_ret
      exact ⟨ret_bool (decide_eq_false (fun e => Ho.out (by injection e with e3 e4; injection e4))).symm, hga⟩
  · have e0 : (i1 != i2) = true := bne_iff_ne.2 hi
    have Hi := Lib.hid hi
    clear hi
    go_enter Try.func31, Try.ntmps31
    go_wp2
    go_ret
    exact ⟨ret_bool (decide_eq_false (fun e => Hi.out (by injection e))).symm, hga⟩

set_option maxHeartbeats 4000000 in
set_option maxRecDepth 100000 in
theorem c_spec_BatchesMerge (lo lo' : Nat) (A B : Option Addr) (n cap m cap' : Nat) (a b : List Bt) (w : World) (h : Bats w lo A n cap a) (h' : Bats w lo' B m cap' b) (hn : n ≤ 2000000) (hm : m ≤ 2000000) (hsa : ∀ x ∈ a, ∀ p ∈ x.2.2, p.1.size ≤ 2000000) (hsb : ∀ x ∈ b, ∀ p ∈ x.2.2, p.1.size ≤ 2000000) :
    Calls Try.prog 10 #[.slice A n cap, .slice B m cap'] w (BmRes a b w) := by
  have Hsa := Lib.hid hsa
  have Hsb := Lib.hid hsb
  clear hsa hsb
  have hlc := h.le
  have hcm := h.max
  have hlc' := h'.le
  have hcm' := h'.max
  have hxl := Lib.hid h.len
  have hyl := Lib.hid h'.len
  have hbad : Hid (bmOK a b = false → ∀ x : World, w.grownBy x none → BmRes a b w (.returned (.tuple #[.slice (some ⟨x.heap.size, 0, none⟩) 0 0, .bool false])) (x.alloc (.cells #[] 34))) := Lib.hid (fun hv x hg => by
    refine ⟨_, 0, 0, [], by rw [hv], gb_alloc hg _, ?_⟩
    rw [bmRes, hv]
    exact (OwnRecs.empty _ _ _ x _ hg.size).wide (Nat.le_refl _) (by simp))
  obtain ⟨V, hV⟩ : ∃ V, batchesOK a = V := ⟨_, rfl⟩
  have HV := Lib.hid hV
  clear hV
  obtain ⟨V2, hV2⟩ : ∃ V2, batchesOK b = V2 := ⟨_, rfl⟩
  have HV2 := Lib.hid hV2
  clear hV2
  go_enter Try.func10, Try.ntmps10
  go_wp2_with fail
  refine (c_spec_BatchesValid lo A n cap a _ h Hsa.out).mono ?_
  rintro e w1 ⟨rfl, hg1⟩
  rw [HV.out]
  cases V with
  | false =>
    have hres := Lib.hid (hbad.out (by unfold bmOK; rw [HV.out]; rfl) _ hg1)
    go_wp2
    go_ret2
    exact hres.out
  | true =>
    go_wp2_with fail
    refine (c_spec_BatchesValid lo' B m cap' b _ (Recs.keep0 h' hg1) Hsb.out).mono ?_
    rintro e w2 ⟨rfl, hg2⟩
    rw [HV2.out]
    have hG2 := gb_trans hg1 hg2
    cases V2 with
    | false =>
      have hres := Lib.hid (hbad.out (by unfold bmOK; rw [HV.out, HV2.out]; rfl) _ hG2)
      go_wp2
      go_ret2
      exact hres.out
    | true =>
      obtain ⟨hbt, ha, hal⟩ := (batchesOK_iff a).1 HV.out
      obtain ⟨hbt', hb, hbl⟩ := (batchesOK_iff b).1 HV2.out
      have Ha := Lib.hid ha
      have Hb := Lib.hid hb
      have Hbt := Lib.hid hbt
      have Hbt' := Lib.hid hbt'
      have hpl : ∀ {l : List Bt}, (∀ p ∈ l, btOK p = true) → ∀ x ∈ l, x.2.2.length ≤ 2000000 := fun hl x hx => by
        have := hl x hx
        unfold btOK at this
        simp only [Bool.and_eq_true] at this
        have := ((pilesOK_iff _).1 this.2).2.2
        omega
      have Hpa := Lib.hid (hpl hbt)
      have Hpb := Lib.hid (hpl hbt')
      have hz2 := hG2.size
      clear ha hb hal hbl hbt hbt' hpl hg1 hg2
      go_wp2
      go_loopw [6, 7] (fun v i wr => ∃ (t q : Nat) (D : Option Addr) (c : Nat) (hs : List Hd), t ≤ 99 ∧ i = .int .i64 ((t : Int) + 1) ∧ v = .slice D q c ∧ w.grownBy wr none ∧ Hid (OwnRecs btRec 55 34 wr w.heap.size wr.heap.size D q c (specB a b t) hs) ∧ Hid (∀ x ∈ a, ∀ y ∈ b, x.1 = y.1 → x.1 ≤ t → x = y)) (fun _ i _ => 100 - (intOf i).toNat)
      case atStart => exact ⟨0, 0, _, _, [], Nat.zero_le _, rfl, rfl, gb_alloc hG2 _, Lib.hid ((OwnRecs.empty _ _ _ _ _ hz2).wide (Nat.le_refl _) (by simp)), Lib.hid (fun x hx y _ _ hle => absurd (btOK_id (Hbt.out x hx)).1 (by omega))⟩
      case round =>
        obtain ⟨t, q, D, c, hs, ht, rfl, rfl, hG, hO, hagr⟩ := hrel
        rename World => wr
        have hql : (specB a b t).length = q := hO.out.xlen
        have hq : q ≤ 99 := by
          have := specB_len a b t
          omega
        by_cases hlt : t < 99
        · have ht1 : (t : Int) + 1 ≤ 99 := by omega
          obtain ⟨id, hid⟩ : ∃ id : Int, ((t + 1 : Nat) : Int) = id := ⟨_, rfl⟩
          have hid' : (t : Int) + 1 = id := by omega
          have hid2 : id ≤ 99 := by omega
          have hid3 : IntKind.i64.wrap (id + 1) = id + 1 := IntWalk.i64_in _ (by omega)
          have Hid1 := Lib.hid hid
          have Hstep : Hid (specB a b (t + 1) = specB a b t ++ pickB a b id) := Lib.hid (by rw [← hid]; rfl)
          have Hagr1 : Hid ((∀ x ∈ a, ∀ y ∈ b, x.1 = id → y.1 = id → x = y) → ∀ x ∈ a, ∀ y ∈ b, x.1 = y.1 → x.1 ≤ ((t + 1 : Nat) : Int) → x = y) := Lib.hid (fun hh x hx y hy he hle => by
            rcases Int.lt_or_le (t : Int) x.1 with h1 | h1
            · exact hh x hx y hy (by omega) (by omega)
            · exact hagr.out x hx y hy he h1)
          rw [hid']
          clear hid hid'
          have hA := Recs.keep0 h hG
          have hB := Recs.keep0 h' hG
          go_wp2_with fail
          refine (c_l43Find lo A n cap a id _ hA).mono ?_
          rintro e w5 ⟨rfl, rfl⟩
          go_wp2_with fail
          refine (c_l43Find lo' B m cap' b id _ hB).mono ?_
          rintro e w5 ⟨rfl, rfl⟩
          have FA := findB_cases a id
          have FB := findB_cases b id
          rcases FA with FA | FA <;> rcases FB with FB | FB
          ·
            obtain ⟨hf, hfd⟩ := FA
            have Hfd := Lib.hid hfd
            rw [hf]
            clear hf hfd
            obtain ⟨hf', hfd'⟩ := FB
            have Hfd' := Lib.hid hfd'
            rw [hf']
            clear hf' hfd'
            go_wp2_with fail
            refine wp_known wr [.int .i64 (-1), .bool false, .bool false, undef, undef, .bool false, .bool false, undef, undef, undef, undef, undef, undef, undef, undef, undef, undef, .bool false] (gb_refl _ _) (by kernel_rfl) (by kernel_rfl) ?_ ?_
            · refine ⟨?_, ?_, ?_, ?_, ?_, ?_, ?_, ?_, ?_, ?_, ?_, ?_, ?_, ?_, ?_, ?_, ?_, ?_, trivial⟩
              all_goals
                intro nn u x hnn hC hp
                simp [flowPreds, Region.binds, fKnown] at hp
                go_simp
              all_goals try exact ⟨gb_refl _ _, rfl⟩
            · intro u x hC hp'
              have e1 : u 17 = .bool false := hp' 17 (by decide)
              have hGx := gb_trans hG hC
              have hO7 := Lib.hid ((hO.out.keep hC).wide (Nat.le_refl w.heap.size) hC.size)
              go_simp
              go_wp2
              go_roundw
              case rel => exact ⟨t + 1, q, D, c, hs, by omega, congrArg (Value.int .i64) (by rw [Hid1.out]), rfl, hGx, Lib.hid (by rw [Hstep.out, show pickB a b id = [] from by unfold pickB; rw [Hfd.out, Hfd'.out]; rfl, List.append_nil]; exact hO7.out), Lib.hid (Hagr1.out (agree_at Ha.out Hb.out (fun x y h1 h2 => by rw [Hfd.out] at h1; cases h1)))⟩
              case measure => have := Hid1.out; simp [intOf]; omega
          ·
            obtain ⟨hf, hfd⟩ := FA
            have Hfd := Lib.hid hfd
            rw [hf]
            clear hf hfd
            obtain ⟨kb, y, hf', hy, hyi, hfd'⟩ := FB
            have hkb : kb < m := by rw [← hyl.out]; exact (List.getElem?_eq_some_iff.1 hy).1
            obtain ⟨b1, off1, i2, o2, p2, A2, c2, rfl, hz', hp2, m0', m1', m2'⟩ := Bats.at_ hB hkb
            obtain rfl : y = (i2, o2, p2) := by rw [hz'.out] at hy; injection hy with hy; exact hy.symm
            simp only at hyi
            have Hyi := Lib.hid hyi
            clear hyi
            have hkb0 : (0 : Int) ≤ (kb : Int) := by omega
            have hkb1 : (kb : Int) < (m : Int) := by omega
            have hpl2 : p2.length ≤ 2000000 := Hpb.out _ (List.mem_of_getElem? hy)
            obtain ⟨M, hM⟩ : ∃ M, p2.length = M := ⟨_, rfl⟩
            have HM := Lib.hid hM
            rw [hM] at m2' hp2 hpl2
            have Hfd' := Lib.hid hfd'
            have Hym := Lib.hid (List.mem_of_getElem? hy)
            rw [hf']
            clear hM hf' hfd' hy
            go_wp2_with fail
            refine wp_known wr [.int .i64 (-1), .bool false, .bool false, undef, undef, .bool false, .bool false, undef, undef, undef, undef, undef, undef, undef, undef, undef, undef, .bool false] (gb_refl _ _) (by kernel_rfl) (by kernel_rfl) ?_ ?_
            · refine ⟨?_, ?_, ?_, ?_, ?_, ?_, ?_, ?_, ?_, ?_, ?_, ?_, ?_, ?_, ?_, ?_, ?_, ?_, trivial⟩
              all_goals
                intro nn u x hnn hC hp
                simp [flowPreds, Region.binds, fKnown] at hp
                go_simp
              all_goals try exact ⟨gb_refl _ _, rfl⟩
            · intro u x hC hp'
              have e1 : u 17 = .bool false := hp' 17 (by decide)
              have km0' := gb_cell hC m0' (by simp)
              have km1' := gb_cell hC m1' (by simp)
              have km2' := gb_cell hC m2' (by simp)
              have hpx := hp2.keep0 hC
              have hGx := gb_trans hG hC
              have hOx := Lib.hid (hO.out.keep hC)
              have hwx := hC.size
              have hrw := hG.size
              go_simp
              go_wp2_with fail
              refine (c_l43Copy lo' A2 c2 i2 o2 M p2 _ hpx hpl2).mono ?_
              rintro e w6 ⟨E6, c6, rfl, hg6, ho6⟩
              have hO6 := hOx.out.keep hg6
              have hG6 := gb_trans hGx hg6
              have hz6 := hG6.size
              have hwz6 := hg6.size
              have ho6' := Lib.hid (own_lo ho6 hwx)
              clear ho6
              go_wp2_with (at_builtin; refine wpList_app batchE rfl _ _ rfl w.heap.size q _ _ rfl hO6.row [_, _, _] rfl rfl (by simp [Value.oneCell']) (by omega) (by omega) hz6 ?_; intro D7 c7 w7 hown7 hb7 hg7 hat7)
              have hO7 := Lib.hid (hO6.push (x := (i2, o2, p2)) (d := (E6, c6)) (by show w6.ownsRow _ _ _ (.slice E6 p2.length c6) p2.length _; rw [HM.out]; exact ho6'.out) hrw (by rw [show btRec.cells ((i2, o2, p2), (E6, c6)) = [.int .i64 i2, .int .i64 o2, .slice E6 M c6] from by rw [← HM.out]; rfl]; exact hown7) hg7 hat7 (by omega))
              have hG7 := gb_of_below ((gb_below hG6).trans hb7) none
              clear hO6 hOx hown7 hb7 hg7 hat7 ho6'
              go_roundw
              case rel => exact ⟨t + 1, q + 1, D7, c7, _, by omega, congrArg (Value.int .i64) (by rw [Hid1.out]), rfl, hG7, Lib.hid (by rw [Hstep.out, show pickB a b id = [(i2, o2, p2)] from by unfold pickB; rw [Hfd.out, Hfd'.out]; rfl]; exact hO7.out), Lib.hid (Hagr1.out (agree_at Ha.out Hb.out (fun x y h1 h2 => by rw [Hfd.out] at h1; cases h1)))⟩
              case measure => have := Hid1.out; simp [intOf]; omega
          ·
            obtain ⟨ka, x, hf, hx, hxi, hfd⟩ := FA
            have hka : ka < n := by rw [← hxl.out]; exact (List.getElem?_eq_some_iff.1 hx).1
            obtain ⟨b0, off0, i1, o1, p1, A1, c1, rfl, hz, hp1, m0, m1, m2⟩ := Bats.at_ hA hka
            obtain rfl : x = (i1, o1, p1) := by rw [hz.out] at hx; injection hx with hx; exact hx.symm
            simp only at hxi
            have Hxi := Lib.hid hxi
            clear hxi
            have hka0 : (0 : Int) ≤ (ka : Int) := by omega
            have hka1 : (ka : Int) < (n : Int) := by omega
            have hpl1 : p1.length ≤ 2000000 := Hpa.out _ (List.mem_of_getElem? hx)
            obtain ⟨N, hN⟩ : ∃ N, p1.length = N := ⟨_, rfl⟩
            have HN := Lib.hid hN
            rw [hN] at m2 hp1 hpl1
            have Hfd := Lib.hid hfd
            have Hxm := Lib.hid (List.mem_of_getElem? hx)
            rw [hf]
            clear hN hf hfd hx
            obtain ⟨hf', hfd'⟩ := FB
            have Hfd' := Lib.hid hfd'
            rw [hf']
            clear hf' hfd'
            go_wp2_with fail
            refine wp_known wr [.int .i64 ka, .bool true, .bool true, .int .i64 (-1), .bool false, .bool false, .bool false, undef, undef, undef, undef, undef, undef, undef, undef, undef, undef, .bool false] (gb_refl _ _) (by kernel_rfl) (by kernel_rfl) ?_ ?_
            · refine ⟨?_, ?_, ?_, ?_, ?_, ?_, ?_, ?_, ?_, ?_, ?_, ?_, ?_, ?_, ?_, ?_, ?_, ?_, trivial⟩
              all_goals
                intro nn u x hnn hC hp
                simp [flowPreds, Region.binds, fKnown] at hp
                go_simp
              all_goals try exact ⟨gb_refl _ _, rfl⟩
            · intro u x hC hp'
              have e1 : u 17 = .bool false := hp' 17 (by decide)
              have km0 := gb_cell hC m0 (by simp)
              have km1 := gb_cell hC m1 (by simp)
              have km2 := gb_cell hC m2 (by simp)
              have hpx := hp1.keep0 hC
              have hGx := gb_trans hG hC
              have hOx := Lib.hid (hO.out.keep hC)
              have hwx := hC.size
              have hrw := hG.size
              go_simp
              go_wp2_with fail
              refine (c_l43Copy lo A1 c1 i1 o1 N p1 _ hpx hpl1).mono ?_
              rintro e w6 ⟨E6, c6, rfl, hg6, ho6⟩
              have hO6 := hOx.out.keep hg6
              have hG6 := gb_trans hGx hg6
              have hz6 := hG6.size
              have hwz6 := hg6.size
              have ho6' := Lib.hid (own_lo ho6 hwx)
              clear ho6
              go_wp2_with (at_builtin; refine wpList_app batchE rfl _ _ rfl w.heap.size q _ _ rfl hO6.row [_, _, _] rfl rfl (by simp [Value.oneCell']) (by omega) (by omega) hz6 ?_; intro D7 c7 w7 hown7 hb7 hg7 hat7)
              have hO7 := Lib.hid (hO6.push (x := (i1, o1, p1)) (d := (E6, c6)) (by show w6.ownsRow _ _ _ (.slice E6 p1.length c6) p1.length _; rw [HN.out]; exact ho6'.out) hrw (by rw [show btRec.cells ((i1, o1, p1), (E6, c6)) = [.int .i64 i1, .int .i64 o1, .slice E6 N c6] from by rw [← HN.out]; rfl]; exact hown7) hg7 hat7 (by omega))
              have hG7 := gb_of_below ((gb_below hG6).trans hb7) none
              clear hO6 hOx hown7 hb7 hg7 hat7 ho6'
              go_roundw
              case rel => exact ⟨t + 1, q + 1, D7, c7, _, by omega, congrArg (Value.int .i64) (by rw [Hid1.out]), rfl, hG7, Lib.hid (by rw [Hstep.out, show pickB a b id = [(i1, o1, p1)] from by unfold pickB; rw [Hfd.out]]; exact hO7.out), Lib.hid (Hagr1.out (agree_at Ha.out Hb.out (fun x y h1 h2 => by rw [Hfd'.out] at h2; cases h2)))⟩
              case measure => have := Hid1.out; simp [intOf]; omega
          ·
            obtain ⟨ka, x, hf, hx, hxi, hfd⟩ := FA
            have hka : ka < n := by rw [← hxl.out]; exact (List.getElem?_eq_some_iff.1 hx).1
            obtain ⟨b0, off0, i1, o1, p1, A1, c1, rfl, hz, hp1, m0, m1, m2⟩ := Bats.at_ hA hka
            obtain rfl : x = (i1, o1, p1) := by rw [hz.out] at hx; injection hx with hx; exact hx.symm
            simp only at hxi
            have Hxi := Lib.hid hxi
            clear hxi
            have hka0 : (0 : Int) ≤ (ka : Int) := by omega
            have hka1 : (ka : Int) < (n : Int) := by omega
            have hpl1 : p1.length ≤ 2000000 := Hpa.out _ (List.mem_of_getElem? hx)
            obtain ⟨N, hN⟩ : ∃ N, p1.length = N := ⟨_, rfl⟩
            have HN := Lib.hid hN
            rw [hN] at m2 hp1 hpl1
            have Hfd := Lib.hid hfd
            have Hxm := Lib.hid (List.mem_of_getElem? hx)
            rw [hf]
            clear hN hf hfd hx
            obtain ⟨kb, y, hf', hy, hyi, hfd'⟩ := FB
            have hkb : kb < m := by rw [← hyl.out]; exact (List.getElem?_eq_some_iff.1 hy).1
            obtain ⟨b1, off1, i2, o2, p2, A2, c2, rfl, hz', hp2, m0', m1', m2'⟩ := Bats.at_ hB hkb
            obtain rfl : y = (i2, o2, p2) := by rw [hz'.out] at hy; injection hy with hy; exact hy.symm
            simp only at hyi
            have Hyi := Lib.hid hyi
            clear hyi
            have hkb0 : (0 : Int) ≤ (kb : Int) := by omega
            have hkb1 : (kb : Int) < (m : Int) := by omega
            have hpl2 : p2.length ≤ 2000000 := Hpb.out _ (List.mem_of_getElem? hy)
            obtain ⟨M, hM⟩ : ∃ M, p2.length = M := ⟨_, rfl⟩
            have HM := Lib.hid hM
            rw [hM] at m2' hp2 hpl2
            have Hfd' := Lib.hid hfd'
            have Hym := Lib.hid (List.mem_of_getElem? hy)
            rw [hf']
            clear hM hf' hfd' hy
            have hcall := fun (x : World) (hx : wr.grownBy x none) => c_l43Same lo lo' A1 A2 N c1 M c2 i1 o1 i2 o2 p1 p2 x (hp1.keep0 hx) (hp2.keep0 hx)
            obtain ⟨E1, hE1⟩ : ∃ E1, decide ((i1, o1, p1) = ((i2, o2, p2) : Bt)) = E1 := ⟨_, rfl⟩
            have HE1 := Lib.hid hE1
            rw [hE1] at hcall
            have Hc := Lib.hid hcall
            clear hcall hE1
            go_wp2_with fail
            refine wp_known wr [.int .i64 ka, .bool true, .bool true, .int .i64 kb, .bool true, .bool true, .bool true, .slice (some ⟨b0, off0, none⟩) n cap, .int .i64 ka, .pointer (some ⟨b0, off0 + ka * 3, none⟩), .agg #[.int .i64 i1, .int .i64 o1, .slice A1 N c1], .slice (some ⟨b1, off1, none⟩) m cap', .int .i64 kb, .pointer (some ⟨b1, off1 + kb * 3, none⟩), .agg #[.int .i64 i2, .int .i64 o2, .slice A2 M c2], .bool E1, .bool !E1, .bool !E1] (gb_refl _ _) (by kernel_rfl) (by kernel_rfl) ?_ ?_
            · refine ⟨?_, ?_, ?_, ?_, ?_, ?_, ?_, ?_, ?_, ?_, ?_, ?_, ?_, ?_, ?_, ?_, ?_, ?_, trivial⟩
              all_goals
                intro nn u x hnn hC hp
                simp [flowPreds, Region.binds, fKnown] at hp
                have nm0 := gb_cell hC m0 (by simp)
                have nm1 := gb_cell hC m1 (by simp)
                have nm2 := gb_cell hC m2 (by simp)
                have nm0' := gb_cell hC m0' (by simp)
                have nm1' := gb_cell hC m1' (by simp)
                have nm2' := gb_cell hC m2' (by simp)
                go_simp
              all_goals try exact ⟨gb_refl _ _, rfl⟩
              · refine (Hc.out _ hC).mono ?_
                rintro e y ⟨rfl, hg⟩
                exact ⟨_, rfl, hg, rfl⟩
            · intro u x hC hp'
              have e1 : u 17 = .bool !E1 := hp' 17 (by decide)
              clear Hc
              cases E1 with
              | true =>
                have Hst := Lib.hid (of_decide_eq_true HE1.out)
                clear HE1
                have km0 := gb_cell hC m0 (by simp)
                have km1 := gb_cell hC m1 (by simp)
                have km2 := gb_cell hC m2 (by simp)
                have hpx := hp1.keep0 hC
                have hGx := gb_trans hG hC
                have hOx := Lib.hid (hO.out.keep hC)
                have hwx := hC.size
                have hrw := hG.size
                go_simp
                go_wp2_with fail
                refine (c_l43Copy lo A1 c1 i1 o1 N p1 _ hpx hpl1).mono ?_
                rintro e w6 ⟨E6, c6, rfl, hg6, ho6⟩
                have hO6 := hOx.out.keep hg6
                have hG6 := gb_trans hGx hg6
                have hz6 := hG6.size
                have hwz6 := hg6.size
                have ho6' := Lib.hid (own_lo ho6 hwx)
                clear ho6
                go_wp2_with (at_builtin; refine wpList_app batchE rfl _ _ rfl w.heap.size q _ _ rfl hO6.row [_, _, _] rfl rfl (by simp [Value.oneCell']) (by omega) (by omega) hz6 ?_; intro D7 c7 w7 hown7 hb7 hg7 hat7)
                have hO7 := Lib.hid (hO6.push (x := (i1, o1, p1)) (d := (E6, c6)) (by show w6.ownsRow _ _ _ (.slice E6 p1.length c6) p1.length _; rw [HN.out]; exact ho6'.out) hrw (by rw [show btRec.cells ((i1, o1, p1), (E6, c6)) = [.int .i64 i1, .int .i64 o1, .slice E6 N c6] from by rw [← HN.out]; rfl]; exact hown7) hg7 hat7 (by omega))
                have hG7 := gb_of_below ((gb_below hG6).trans hb7) none
                clear hO6 hOx hown7 hb7 hg7 hat7 ho6'
                go_roundw
                case rel => exact ⟨t + 1, q + 1, D7, c7, _, by omega, congrArg (Value.int .i64) (by rw [Hid1.out]), rfl, hG7, Lib.hid (by rw [Hstep.out, show pickB a b id = [(i1, o1, p1)] from by unfold pickB; rw [Hfd.out]]; exact hO7.out), Lib.hid (Hagr1.out (agree_at Ha.out Hb.out (fun x y h1 h2 => by rw [Hfd.out] at h1; rw [Hfd'.out] at h2; injection h1 with h1; injection h2 with h2; rw [← h1, ← h2]; exact Hst.out)))⟩
                case measure => have := Hid1.out; simp [intOf]; omega
              | false =>
                have Hst := Lib.hid (of_decide_eq_false HE1.out)
                clear HE1
                have hres := Lib.hid (hbad.out (by
                  cases e : bmOK a b with
                  | false => rfl
                  | true => exact absurd (((bmOK_iff a b).1 e).2.2.1 _ Hxm.out _ Hym.out (by have := Hxi.out; have := Hyi.out; simp only; omega)) Hst.out) x (gb_trans hG hC))
                go_simp
                go_wp2
                go_ret2
                exact hres.out
        · obtain rfl : t = 99 := by omega
          have hag : Agree a b := fun x hx y hy e => hagr.out x hx y hy e (btOK_id (Hbt.out x hx)).2
          have hOe : specB a b 99 = mgB a b := specB_eq Ha.out Hb.out hag (fun x hx => btOK_id (Hbt.out x hx)) (fun x hx => btOK_id (Hbt'.out x hx))
          obtain ⟨OUT, hOUT⟩ : ∃ OUT, specB a b 99 = OUT := ⟨_, rfl⟩
          rw [hOUT] at hO hOe
          have hok : bmOK a b = batchesOK OUT := by
            unfold bmOK
            rw [HV.out, HV2.out, (agreeB_iff a b).2 hag, hOe]
            rfl
          obtain ⟨V3, hV3⟩ : ∃ V3, batchesOK OUT = V3 := ⟨_, rfl⟩
          have HV3 := Lib.hid hV3
          have Hok := Lib.hid (hok.trans hV3)
          have HOe := Lib.hid hOe
          have Hows := Lib.hid (fun (x : World) (hx : wr.grownBy x none) => (hO.out.keep hx).wide (Nat.le_refl w.heap.size) hx.size)
          have hrec := hO.out.recs
          have hsz3 : ∀ x ∈ OUT, ∀ p ∈ x.2.2, p.1.size ≤ 2000000 := fun x hx p hp => by
            rw [hOe] at hx
            rcases mgB_sub hx with h1 | h1
            · exact Hsa.out x h1 p hp
            · exact Hsb.out x h1 p hp
          clear hV3 hok hOe hag hO hagr hql hOUT
          go_wp2_with fail
          refine (c_spec_BatchesValid w.heap.size D q c OUT _ hrec hsz3).mono ?_
          rintro e w8 ⟨rfl, hg8⟩
          rw [HV3.out]
          have hG8 := gb_trans hG hg8
          have hO8 := Lib.hid (Hows.out w8 hg8)
          clear Hows hrec
          cases V3 with
          | false =>
            have hres := Lib.hid (hbad.out Hok.out w8 hG8)
            go_wp2
            go_ret2
            exact hres.out
          | true =>
            have hres : Hid (BmRes a b w (.returned (.tuple #[.slice D q c, .bool true])) w8) := Lib.hid ⟨D, q, c, hs, by rw [Hok.out], hG8, by rw [bmRes, Hok.out, if_pos rfl, ← HOe.out]; exact hO8.out⟩
            go_wp2
            go_ret2
            exact hres.out
end Go.Proofs.Ytdhkhlemdlibfaa
