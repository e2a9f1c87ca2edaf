/-
  Totals of parts, and of what is published: plain Lean.
-/
import Derived.Test.YtifmljckmjnpfaaPubLaw
import Derived.Test.YtifmljckmjnpfaaPilesTotal
namespace Go.Proofs.Ytifmljckmjnpfaa
open Go.RowKit
set_option linter.unusedVariables false

theorem asc_le {b : List Pl} : ∀ {a : List Pl}, Asc a → Asc b → (∀ t, t ∈ a.map (·.1) → t ∈ b.map (·.1)) → a.length ≤ b.length := by
  induction b with
  | nil =>
    intro a _ _ h
    cases a with
    | nil => exact Nat.le_refl _
    | cons p a => exact absurd (h p.1 (by simp)) (by simp)
  | cons q b ih =>
    intro a ha hb h
    cases a with
    | nil => exact Nat.zero_le _
    | cons p a =>
      unfold Asc at ha hb
      rw [List.pairwise_cons] at ha hb
      rw [List.length_cons, List.length_cons]
      by_cases hpq : p.1 = q.1
      · have := ih (a := a) ha.2 hb.2 (fun t ht => by
          have h1 := h t (List.mem_cons_of_mem _ ht)
          rcases List.mem_cons.1 h1 with h2 | h2
          · exfalso
            obtain ⟨x, hx, e⟩ := List.mem_map.1 ht
            have h3 := ha.1 x hx
            rw [e, hpq, h2, sLt_irrefl] at h3
            cases h3
          · exact h2)
        omega
      · have hpb : p.1 ∈ b.map (·.1) := by
          rcases List.mem_cons.1 (h p.1 (by simp)) with h2 | h2
          · exact absurd h2 hpq
          · exact h2
        obtain ⟨z, hz, ez⟩ := List.mem_map.1 hpb
        have hqp := hb.1 z hz
        rw [ez] at hqp
        have := ih (a := p :: a) (List.pairwise_cons.2 ha) hb.2 (fun t ht => by
          rcases List.mem_cons.1 (h t ht) with h2 | h2
          · exfalso
            rcases List.mem_cons.1 ht with h3 | h3
            · exact hpq (h3.symm.trans h2)
            · obtain ⟨x, hx, e⟩ := List.mem_map.1 h3
              have h4 := ha.1 x hx
              rw [e, h2, sLt_asymm hqp] at h4
              cases h4
          · exact h2)
        rw [List.length_cons] at this
        omega
theorem tot_no {ps : List Pl} {t : ByteArray} (h : t ∉ ps.map (·.1)) : tot ps t = 0 := by
  induction ps with
  | nil => rfl
  | cons p ps ih =>
    simp only [List.map_cons, List.mem_cons, not_or] at h
    rw [tot_cons, if_neg (fun e => h.1 e.symm), ih h.2]
    rfl
theorem tot_asc {ps : List Pl} (h : Asc ps) (t : ByteArray) : tot ps t = look ps t := by
  unfold Asc at h
  induction ps with
  | nil => rfl
  | cons p ps ih =>
    rw [List.pairwise_cons] at h
    rw [tot_cons, look]
    by_cases e : p.1 = t
    · subst e
      rw [if_pos rfl, if_pos rfl, tot_no (fun hm => by
        obtain ⟨x, hx, e⟩ := List.mem_map.1 hm
        exact sLt_ne (h.1 x hx) e.symm)]
      omega
    · rw [if_neg e, if_neg e, ih h.2]
      omega
theorem tot_canon {es : List Pl} (h : Small es) (t : ByteArray) : tot (canon es) t = tot es t := by rw [tot_asc (canon_asc es), canon_look h]
theorem tot_pos {es : List Pl} (h : ∀ e ∈ es, 1 ≤ e.2) {t : ByteArray} (ht : t ∈ es.map (·.1)) : 1 ≤ tot es t := by
  induction es with
  | nil => simp at ht
  | cons e es ih =>
    have h0 : ∀ (fs : List Pl), (∀ e ∈ fs, 1 ≤ e.2) → 0 ≤ tot fs t := by
      intro fs
      induction fs with
      | nil => intro _; exact Int.le_refl 0
      | cons f fs ihf =>
        intro hf
        have h1 := ihf (fun x hx => hf x (List.mem_cons_of_mem _ hx))
        have h2 := hf f (by simp)
        rw [tot_cons]
        split <;> omega
    have h1 := h0 es (fun x hx => h x (List.mem_cons_of_mem _ hx))
    have h2 := h e (by simp)
    rw [tot_cons]
    by_cases hh : e.1 = t
    · rw [if_pos hh]; omega
    · rw [if_neg hh]
      have := ih (fun x hx => h x (List.mem_cons_of_mem _ hx)) (by
        rw [List.map_cons] at ht
        rcases List.mem_cons.1 ht with h3 | h3
        · exact absurd h3.symm hh
        · exact h3)
      omega
/-- What fits together, fits in parts. -/
theorem part_ok {es fs : List Pl} (ht : ∀ t, t ∈ es.map (·.1) → t ∈ fs.map (·.1)) (hle : ∀ t, tot es t ≤ tot fs t) (hv : ∀ e ∈ es, 1 ≤ e.2) (h1 : Small es) (h2 : Small fs) (hok : pilesOK (canon fs) = true) : pilesOK (canon es) = true := by
  rw [pilesOK_iff] at *
  obtain ⟨a1, a2, a3⟩ := hok
  have hsub : ∀ t, t ∈ (canon es).map (·.1) → t ∈ (canon fs).map (·.1) := fun t h => by rw [canon_texts] at *; exact ht t h
  refine ⟨fun p hp => ?_, canon_asc es, Nat.le_trans (asc_le (canon_asc es) (canon_asc fs) hsub) a3⟩
  have hpt : p.1 ∈ (canon es).map (·.1) := List.mem_map.2 ⟨p, hp, rfl⟩
  obtain ⟨q, hq, e⟩ := List.mem_map.1 (hsub _ hpt)
  have hqo := a1 q hq
  have e1 : p.2 = tot es p.1 := by rw [← canon_look h1, look_mem (canon_asc es) hp]
  have e2 : q.2 = tot fs q.1 := by rw [← canon_look h2, look_mem (canon_asc fs) hq]
  have h3 := tot_pos hv (by rw [← canon_texts]; exact hpt)
  have h4 := hle p.1
  have hqm := plOK_many hqo
  unfold plOK at hqo ⊢
  rw [Bool.and_eq_true] at *
  rw [e] at hqo e2
  exact ⟨hqo.1, by simp [inB]; omega⟩
theorem tot_flat {xs : List (List Pl)} (h : ∀ x ∈ xs, Small x) (t : ByteArray) : tot (xs.map canon).flatten t = tot xs.flatten t := by
  induction xs with
  | nil => rfl
  | cons x xs ih =>
    rw [List.map_cons, List.flatten_cons, List.flatten_cons, tot_append, tot_append, tot_canon (h x (by simp)), ih (fun y hy => h y (List.mem_cons_of_mem _ hy))]
/-- Together, in parts or at once. -/
theorem canon_parts {xs : List (List Pl)} (h : ∀ x ∈ xs, Small x) (h1 : Small xs.flatten) (h2 : Small (xs.map canon).flatten) : canon (xs.map canon).flatten = canon xs.flatten := by
  refine (canon_unique h2 (canon_asc _) (fun t => ?_) (fun p hp => ?_)).symm
  · rw [canon_texts]
    constructor
    · intro ht
      obtain ⟨e, he, rfl⟩ := List.mem_map.1 ht
      obtain ⟨x, hx, hex⟩ := List.mem_flatten.1 he
      have : e.1 ∈ (canon x).map (·.1) := by rw [canon_texts]; exact List.mem_map.2 ⟨e, hex, rfl⟩
      obtain ⟨q, hq, e2⟩ := List.mem_map.1 this
      exact List.mem_map.2 ⟨q, List.mem_flatten.2 ⟨canon x, List.mem_map.2 ⟨x, hx, rfl⟩, hq⟩, e2⟩
    · intro ht
      obtain ⟨e, he, rfl⟩ := List.mem_map.1 ht
      obtain ⟨y, hy, hey⟩ := List.mem_flatten.1 he
      obtain ⟨x, hx, rfl⟩ := List.mem_map.1 hy
      have : e.1 ∈ x.map (·.1) := by rw [← canon_texts]; exact List.mem_map.2 ⟨e, hey, rfl⟩
      obtain ⟨q, hq, e2⟩ := List.mem_map.1 this
      exact List.mem_map.2 ⟨q, List.mem_flatten.2 ⟨x, hx, hq⟩, e2⟩
  · rw [tot_flat h, ← canon_look h1, look_mem (canon_asc _) hp]
theorem small_of_ok {ps : List Pl} (h : pilesOK ps = true) : Small ps ∧ ps.length ≤ 12 := by
  obtain ⟨h1, _, h3⟩ := (pilesOK_iff ps).1 h
  exact ⟨⟨fun e he => by have := plOK_many (h1 e he); omega, by omega⟩, h3⟩
theorem canon_self {ps : List Pl} (h : pilesOK ps = true) : canon ps = ps := by
  obtain ⟨_, h2, _⟩ := (pilesOK_iff ps).1 h
  refine (canon_unique (small_of_ok h).1 h2 (fun t => Iff.rfl) (fun p hp => ?_)).symm
  rw [tot_asc h2, look_mem h2 hp]
theorem pctEs_append (a b : List Pc) : pctEs (a ++ b) = pctEs a ++ pctEs b := List.flatMap_append
theorem pctEs_len_le {a b : List Pc} (h : a.Sublist b) : (pctEs a).length ≤ (pctEs b).length := by
  induction h with
  | slnil => exact Nat.le_refl _
  | cons x _ ih => rw [show ∀ l, pctEs (x :: l) = x.2 ++ pctEs l from fun _ => rfl, List.length_append]; omega
  | cons_cons x _ ih => rw [show ∀ l, pctEs (x :: l) = x.2 ++ pctEs l from fun _ => rfl, show ∀ l, pctEs (x :: l) = x.2 ++ pctEs l from fun _ => rfl, List.length_append, List.length_append]; omega
theorem sum_pctEs (g : List Pc) : sumPl (pctEs g) = wsum pcWt g := by
  induction g with
  | nil => rfl
  | cons b g ih =>
    rw [show pctEs (b :: g) = b.2 ++ pctEs g from rfl, sumPl_app, ih]
    simp [wsum, pcWt]
/-- Totals of two parts, merged. -/
theorem tot_merge {bs : List Pc} {k : Nat} (h : ptotOK bs = true) : ptotOK (bs.take k) = true ∧ ptotOK (bs.drop k) = true ∧ ptotRes (bs.take k) = canon (pctEs (bs.take k)) ∧ ptotRes (bs.drop k) = canon (pctEs (bs.drop k)) ∧
    canon (canon (pctEs (bs.take k)) ++ canon (pctEs (bs.drop k))) = ptotRes bs := by
  have hr : ptotRes bs = canon (pctEs bs) := by rw [ptotRes, h]; rfl
  unfold ptotOK at h
  rw [Bool.and_eq_true] at h
  obtain ⟨h1, h2⟩ := h
  have hpo := pctsOK_piles h1
  have hl := pctsOK_len h1
  obtain ⟨v1, v2, v3⟩ := (pctsOK_iff bs).1 h1
  have hsm := (pcts_small hpo hl).1
  have hsplit : pctEs bs = pctEs (bs.take k) ++ pctEs (bs.drop k) := by rw [← pctEs_append, List.take_append_drop]
  have hval : ∀ cs : List Pc, (∀ b ∈ cs, b ∈ bs) → ∀ e ∈ pctEs cs, 1 ≤ e.2 := fun cs hc e he => by
    obtain ⟨b, hb, hpb⟩ := pctEs_mem he
    exact (plOK_many (((pilesOK_iff _).1 (hpo b (hc b hb))).1 e hpb)).1
  have hpart : ∀ cs : List Pc, cs.Sublist bs → (∀ t, tot (pctEs cs) t ≤ tot (pctEs bs) t) → pctsOK cs = true ∧ Small (pctEs cs) ∧ pilesOK (canon (pctEs cs)) = true := fun cs hs hle => by
    have hm : ∀ b ∈ cs, b ∈ bs := fun b hb => hs.subset hb
    have hsc := (pcts_small (bs := cs) (fun b hb => hpo b (hm b hb)) (Nat.le_trans hs.length_le hl)).1
    refine ⟨(pctsOK_iff cs).2 ⟨fun p hp => v1 p (hm p hp), v2.sublist hs, Nat.le_trans hs.length_le v3⟩, hsc, ?_⟩
    refine part_ok (fun t ht => ?_) hle (hval cs hm) hsc hsm h2
    obtain ⟨e, he, rfl⟩ := List.mem_map.1 ht
    obtain ⟨b, hb, hpb⟩ := pctEs_mem he
    exact List.mem_map.2 ⟨e, List.mem_flatMap.2 ⟨b, hm b hb, hpb⟩, rfl⟩
  have hnn : ∀ cs : List Pc, (∀ b ∈ cs, b ∈ bs) → ∀ t, 0 ≤ tot (pctEs cs) t := fun cs hc t => by
    by_cases ht : t ∈ (pctEs cs).map (·.1)
    · have := tot_pos (hval cs hc) ht; omega
    · rw [tot_no ht]; exact Int.le_refl 0
  obtain ⟨p1, p2, p3⟩ := hpart (bs.take k) (List.take_sublist _ _) (fun t => by
    have := hnn (bs.drop k) (fun b hb => List.drop_subset _ _ hb) t
    rw [hsplit, tot_append]; omega)
  obtain ⟨q1, q2, q3⟩ := hpart (bs.drop k) (List.drop_sublist _ _) (fun t => by
    have := hnn (bs.take k) (fun b hb => List.take_subset _ _ hb) t
    rw [hsplit, tot_append]; omega)
  have o1 : ptotOK (bs.take k) = true := by rw [ptotOK, p1, p3]; rfl
  have o2 : ptotOK (bs.drop k) = true := by rw [ptotOK, q1, q3]; rfl
  refine ⟨o1, o2, by rw [ptotRes, o1]; rfl, by rw [ptotRes, o2]; rfl, ?_⟩
  have hc := canon_parts (xs := [pctEs (bs.take k), pctEs (bs.drop k)]) (fun x hx => by
    simp at hx
    rcases hx with rfl | rfl
    · exact p2
    · exact q2) (by simpa [← hsplit] using hsm) (by
    have s1 := small_of_ok p3
    have s2 := small_of_ok q3
    refine ⟨fun e he => ?_, by simp; omega⟩
    simp at he
    rcases he with he | he
    · exact s1.1.1 e he
    · exact s2.1.1 e he)
  simp only [List.map_cons, List.map_nil, List.flatten_cons, List.flatten_nil, List.append_nil] at hc
  rw [hc, ← hsplit, hr]
theorem pctEs_pub (gs : List (List Pc)) : pctEs (gs.map pubG) = ((gs.map pctEs).map canon).flatten := by
  unfold pctEs
  rw [List.flatMap_map, List.map_map, List.flatMap]
  rfl
theorem pctEs_flat (gs : List (List Pc)) : (gs.map pctEs).flatten = pctEs gs.flatten := by
  induction gs with
  | nil => rfl
  | cons g gs ih => rw [List.map_cons, List.flatten_cons, List.flatten_cons, pctEs_append, ih]
/-- What is published has the same total. -/
theorem pub_tot {bs : List Pc} {least : Int} (h : pubOK bs least = true) : pctsOK (pubL bs least) = true ∧ ptotOK (pubL bs least) = ptotOK bs ∧ ptotRes (pubL bs least) = ptotRes bs ∧ (pubL bs least).length = (pgRes bs least).length := by
  unfold pubOK at h
  rw [Bool.and_eq_true] at h
  obtain ⟨h1, h2⟩ := h
  have hv := (pub_valid h1).trans h2
  obtain ⟨g1, g2, g3⟩ := groupOK_pcts h1
  obtain ⟨f1, f2⟩ := pGroups_flat h1
  have hpo := pctsOK_piles g1
  have hsm := (pcts_small hpo (pctsOK_len g1)).1
  have hpall : ∀ g ∈ pGroups bs least, pilesOK (canon (pctEs g)) = true := List.all_eq_true.1 h2
  have hl6 : (pGroups bs least).length ≤ 6 := by have := pctsOK_len hv; rwa [pubL, List.length_map] at this
  have hc : canon (pctEs (pubL bs least)) = canon (pctEs bs) := by
    rw [pubL, pctEs_pub, canon_parts, pctEs_flat, f1]
    · intro x hx
      obtain ⟨g, hg, rfl⟩ := List.mem_map.1 hx
      have hm : ∀ b ∈ g, b ∈ bs := fun b hb => by rw [← f1]; exact List.mem_flatten.2 ⟨g, hg, hb⟩
      refine small_sub hsm (fun e he => ?_) ?_
      · obtain ⟨b, hb, hpb⟩ := pctEs_mem he
        exact List.mem_flatMap.2 ⟨b, hm b hb, hpb⟩
      · have hsub : g.Sublist bs := by rw [← f1]; exact List.sublist_flatten_of_mem hg
        exact pctEs_len_le hsub
    · rw [pctEs_flat, f1]; exact hsm
    · have hx : ∀ e ∈ ((((pGroups bs least).map pctEs).map canon).flatten), 0 ≤ e.2 ∧ e.2 ≤ 99 := fun e he => by
        obtain ⟨y, hy, hey⟩ := List.mem_flatten.1 he
        obtain ⟨x, hx, rfl⟩ := List.mem_map.1 hy
        obtain ⟨g, hg, rfl⟩ := List.mem_map.1 hx
        exact (small_of_ok (hpall g hg)).1.1 e hey
      refine ⟨hx, ?_⟩
      rw [← pctEs_pub]
      have := pflat_len (l := (pGroups bs least).map pubG) (fun b hb => by
        obtain ⟨g, hg, rfl⟩ := List.mem_map.1 hb
        exact (small_of_ok (hpall g hg)).2)
      rw [List.length_map] at this
      omega
  have ho : ptotOK (pubL bs least) = ptotOK bs := by rw [ptotOK, ptotOK, hv, hc, g1]
  refine ⟨hv, ho, by rw [ptotRes, ptotRes, ho, hc], by rw [pubL, pgRes, List.length_map, List.length_map]⟩
theorem groups_single {α : Type} {wt : α → Int} {least : Int} {xs : List α} (hl : 0 < least) (h : ∀ x ∈ xs, least ≤ wt x) : groups wt least xs = xs.map fun x => [x] := by
  have key : gRun wt least xs = (xs.map (fun x => [x]), [], 0) := by
    induction xs using snoc_rec with
    | h0 => rfl
    | h1 xs x ih =>
      rw [gRun_snoc, ih (fun y hy => h y (List.mem_append_left _ hy)), gStep_yes (by have := h x (by simp); omega)]
      simp
  rw [groups, key, gJoin_nil]
theorem groups_one {α : Type} (wt : α → Int) (least : Int) (x : α) : groups wt least [x] = [[x]] := by
  by_cases h : least ≤ 0 + wt x
  · have : gRun wt least [x] = ([[x]], [], 0) := by
      show gStep wt least ([], [], 0) x = _
      rw [gStep_yes h]
      rfl
    rw [groups, this]
    rfl
  · have : gRun wt least [x] = ([], [x], 0 + wt x) := by
      show gStep wt least ([], [], 0) x = _
      rw [gStep_no (by omega)]
      rfl
    rw [groups, this]
    rfl
/-- What is published is published again as it is. -/
theorem pub_again {bs : List Pc} {least : Int} (h : pubOK bs least = true) : pubOK (pubL bs least) least = true ∧ pubRes (pubL bs least) least = pubL bs least ∧ (2 ≤ (pubL bs least).length → ∀ b ∈ pubL bs least, least ≤ pTotal b.2) := by
  have hpk := h
  obtain ⟨hv, _, _, _⟩ := pub_tot h
  unfold pubOK at h
  rw [Bool.and_eq_true] at h
  obtain ⟨h1, h2⟩ := h
  obtain ⟨g1, g2, g3⟩ := groupOK_pcts h1
  obtain ⟨f1, f2⟩ := pGroups_flat h1
  have hpo := pctsOK_piles g1
  have hpall : ∀ g ∈ pGroups bs least, pilesOK (canon (pctEs g)) = true := List.all_eq_true.1 h2
  have hsum : ∀ g ∈ pGroups bs least, sumPl (canon (pctEs g)) = wsum pcWt g := fun g hg => by
    have hm : ∀ b ∈ g, b ∈ bs := fun b hb => by rw [← f1]; exact List.mem_flatten.2 ⟨g, hg, hb⟩
    have hl : g.length ≤ 6 := by
      have h4 := groups_len_le pcWt least bs
      have h5 := pctsOK_len g1
      rw [pGroups, if_pos h1] at hg
      have := h4.2 g hg
      omega
    obtain ⟨s1, s2⟩ := pcts_small (bs := g) (fun b hb => hpo b (hm b hb)) hl
    rw [sum_canon s1 (by omega), sum_pctEs]
  have hen : 2 ≤ (pubL bs least).length → ∀ b ∈ pubL bs least, least ≤ sumPl b.2 := fun hl2 b hb => by
    rw [pubL] at hb hl2
    rw [List.length_map] at hl2
    obtain ⟨g, hg, rfl⟩ := List.mem_map.1 hb
    show least ≤ sumPl (canon (pctEs g))
    rw [hsum g hg]
    rw [pGroups, if_pos h1] at hg hl2
    exact groups_enough (by omega) (fun x hx => (pcWt_bound (hpo x hx)).1) hl2 g hg
  have hpv := pctsOK_piles hv
  have hgo : groupOK (pubL bs least) least = true := by
    rw [groupOK, hv]
    simp [inB]
    omega
  have hgr : pGroups (pubL bs least) least = (pubL bs least).map fun b => [b] := by
    rw [pGroups, if_pos hgo]
    by_cases hl2 : 2 ≤ (pubL bs least).length
    · exact groups_single (by omega) (fun x hx => hen hl2 x hx)
    · cases hL : pubL bs least with
      | nil => rfl
      | cons x xs =>
        cases xs with
        | nil => exact groups_one _ _ _
        | cons y ys => rw [hL] at hl2; simp at hl2
  have hone : ∀ b ∈ pubL bs least, pubG [b] = b := fun b hb => by
    have e : pctEs [b] = b.2 := by simp [pctEs]
    show ((b.1, canon (pctEs [b])) : Pc) = b
    rw [e, canon_self (hpv b hb)]
  have hal : pubAll ((pubL bs least).map fun b => [b]) = true := by
    rw [pubAll, List.all_eq_true]
    intro g hg
    obtain ⟨b, hb, rfl⟩ := List.mem_map.1 hg
    have e : pctEs [b] = b.2 := by simp [pctEs]
    rw [e, canon_self (hpv b hb)]
    exact hpv b hb
  have hok : pubOK (pubL bs least) least = true := by rw [pubOK, hgo, hgr, hal]; rfl
  refine ⟨hok, ?_, fun hl2 b hb => by rw [pTotal, if_pos (hpv b hb)]; exact hen hl2 b hb⟩
  rw [pubRes, if_pos hok]
  show (pGroups (pubL bs least) least).map pubG = _
  rw [hgr, List.map_map]
  conv => rhs; rw [← List.map_id (pubL bs least)]
  exact List.map_congr_left hone
end Go.Proofs.Ytifmljckmjnpfaa
