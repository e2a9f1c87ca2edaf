/-
  The winner of a contest, and whether all methods agree: the program and the reference.
-/
import Derived.Test.YtboobimpoddacaaGreatDoorBest
import Derived.Test.YtboobimpoddacaaGreatDoorLots
namespace Go.Proofs.YtboobimpoddacaaGreatDoor
open Go.RowKit
set_option linter.unusedVariables false

def conOK (ps : List Pl) (n m s : Int) : Bool := fitOK ps n && inB m 1 3 && inB s 0 999
/-- The winner by a method. -/
def winM (ps : List Pl) (n : Nat) (m : Int) (lots : List Int) : Int := if m = 1 then plurW ps lots n else if m = 2 then runW ps lots else pWin (cnt ps) n lots
def cWin (ps : List Pl) (n m s : Int) : Int := if conOK ps n m s then winM ps n.toNat m (lotsOf n.toNat s.toNat) else -1
theorem conOK_iff {ps : List Pl} {n m s : Int} : conOK ps n m s = true ↔ fitOK ps n = true ∧ (1 ≤ m ∧ m ≤ 3) ∧ 0 ≤ s ∧ s ≤ 999 := by
  unfold conOK inB
  simp only [Bool.and_eq_true, decide_eq_true_eq]
  constructor
  · intro h; exact ⟨h.1.1, h.1.2, h.2⟩
  · intro h; exact ⟨⟨h.1, h.2.1⟩, h.2.2⟩
theorem conOK_no {ps : List Pl} {n m s : Int} (h : ¬ (fitOK ps n = true ∧ (1 ≤ m ∧ m ≤ 3) ∧ 0 ≤ s ∧ s ≤ 999)) : cWin ps n m s = -1 := by
  unfold cWin
  rw [if_neg (fun e => h (conOK_iff.1 e))]
theorem conOK_yes {ps : List Pl} {N S : Nat} {m : Int} (h1 : fitOK ps (N : Int) = true) (h2 : 1 ≤ m ∧ m ≤ 3) (h3 : S ≤ 999) : cWin ps (N : Int) m (S : Int) = winM ps N m (lotsOf N S) := by
  unfold cWin
  rw [if_pos (conOK_iff.2 ⟨h1, h2, by omega, by omega⟩), Int.toNat_natCast, Int.toNat_natCast]
theorem winM_mem {ps : List Pl} {N : Nat} {lots : List Int} (m : Int) (h : fitOK ps (N : Int) = true) (hp : lots.Perm (iota N)) : winM ps N m lots ∈ lots := by
  have hN := (fit_many h).2.2
  have hne : lots ≠ [] := by
    intro e
    rw [e] at hp
    have := hp.length_eq
    rw [iota_len] at this
    simp at this
    omega
  unfold winM
  split
  · exact (gBest_mem _ hne).1
  · split
    · exact (gBest_mem _ hne).1
    · exact (pWin_mem hp (cnt_nn (fit_many h).1) (by omega)).1
theorem cWin_range {ps : List Pl} {n m s : Int} (h : conOK ps n m s = true) : 0 ≤ cWin ps n m s ∧ cWin ps n m s < n := by
  have h1 := conOK_iff.1 h
  have hN := (fit_many h1.1).2.2
  obtain ⟨N, rfl⟩ : ∃ N : Nat, n = (N : Int) := ⟨n.toNat, by omega⟩
  unfold cWin
  rw [if_pos h, Int.toNat_natCast]
  have := winM_mem m h1.1 (lotsOf_perm N s.toNat)
  exact mem_iota.1 ((lotsOf_perm N s.toNat).mem_iff.1 this)
theorem cWin_ok {ps : List Pl} {n m s : Int} : conOK ps n m s = decide (0 ≤ cWin ps n m s) := by
  cases h : conOK ps n m s with
  | true => simp [(cWin_range h).1]
  | false =>
    unfold cWin
    rw [h]
    rfl
/-- All methods agree. -/
def agreeB (ps : List Pl) (n s : Int) : Bool := decide (0 ≤ cWin ps n 1 s) && decide (cWin ps n 1 s = cWin ps n 2 s) && decide (cWin ps n 1 s = cWin ps n 3 s)

theorem someB_nil (n : Nat) : someB [] n = List.replicate n false := by
  unfold someB iota
  apply List.ext_getElem?
  intro j
  by_cases hj : j < n
  · simp [hj]
  · rw [List.getElem?_eq_none (by simp; omega), List.getElem?_eq_none (by simp; omega)]
theorem someB_snoc (xs : List Int) (n c : Nat) : someB (xs ++ [(c : Int)]) n = (someB xs n).set c true := by
  apply List.ext_getElem?
  intro j
  by_cases hj : j < n
  · have h1 : ∀ ys : List Int, (someB ys n)[j]? = some (decide ((j : Int) ∈ ys)) := fun ys => by
      unfold someB
      rw [List.getElem?_map, iota_at hj]
      rfl
    by_cases hc : c = j
    · subst hc
      rw [List.getElem?_set_self (by rw [someB_len]; exact hj), h1]
      simp
    · rw [List.getElem?_set_ne hc, h1, h1]
      congr 1
      rw [decide_eq_decide]
      simp
      intro e
      omega
  · rw [List.getElem?_eq_none (by rw [someB_len]; omega), List.getElem?_eq_none (by rw [List.length_set, someB_len]; omega)]

set_option maxHeartbeats 4000000 in
set_option maxRecDepth 100000 in
theorem c_impl_ContestWinner (lo : Nat) (A0 : Option Addr) (np cap : Nat) (ps : List Pl) (n m s : Int) (w : World) (h : Piles w lo A0 np cap ps) (hs : ∀ p ∈ ps, p.1.size ≤ 2000000) :
    Calls Tryz.prog 53 #[.slice A0 np cap, .int .i64 n, .int .i64 m, .int .i64 s] w fun e w' => e = .returned (.int .i64 (cWin ps n m s)) ∧ w.grownBy w' none := by
  have Hs := Lib.hid hs
  clear hs
  by_cases hL : lotsOK n s = true
  · have hLL := (lotsOK_iff n s).1 hL
    by_cases hF : fitOK ps n = true
    · obtain ⟨N, rfl⟩ : ∃ N : Nat, n = (N : Int) := ⟨n.toNat, by omega⟩
      obtain ⟨S, rfl⟩ : ∃ S : Nat, s = (S : Int) := ⟨s.toNat, by omega⟩
      have hN1 : 1 ≤ N := by omega
      have hN5 : N ≤ 5 := by omega
      have hS9 : S ≤ 999 := by omega
      have hcl := c_impl_LotsOf (N : Int) (S : Int) w
      have hres : lotsRes (N : Int) (S : Int) = lotsOf N S := by unfold lotsRes; rw [hL, if_pos rfl, Int.toNat_natCast, Int.toNat_natCast]
      rw [hL, hres] at hcl
      have Hc := Lib.hid hcl
      have Hp := Lib.hid (lotsOf_perm N S)
      have Hll := Lib.hid (lotsOf_len N S)
      have Hfit := Lib.hid hF
      have hnn := Lib.hid (cnt_nn (fit_many hF).1)
      obtain ⟨lots, hlots⟩ : ∃ l, lotsOf N S = l := ⟨_, rfl⟩
      rw [hlots] at Hc Hp Hll
      have Hlots := Lib.hid hlots
      have Hval := Lib.hid (perm_valid Hp.out ⟨hN1, hN5⟩)
      clear hL hLL hF hcl hres hlots
      have key : ∀ (Q : Int → Prop), (m = 1 → Q (plurW ps lots N)) → (m = 2 → Q (runW ps lots)) → (m = 3 → Q (pWin (cnt ps) N lots)) → (¬ (1 ≤ m ∧ m ≤ 3) → Q (-1)) → Q (cWin ps (N : Int) m (S : Int)) := by
        intro Q q1 q2 q3 q4
        by_cases hm : 1 ≤ m ∧ m ≤ 3
        · rw [conOK_yes Hfit.out hm hS9, Hlots.out]
          unfold winM
          by_cases e1 : m = 1
          · rw [if_pos e1]; exact q1 e1
          · by_cases e2 : m = 2
            · rw [if_neg e1, if_pos e2]; exact q2 e2
            · rw [if_neg e1, if_neg e2]; exact q3 (by omega)
        · rw [conOK_no (fun e => hm e.2.1)]; exact q4 hm
      refine key (fun r => Calls Tryz.prog 53 #[.slice A0 np cap, .int .i64 (N : Int), .int .i64 m, .int .i64 (S : Int)] w fun e w' => e = .returned (.int .i64 r) ∧ w.grownBy w' none) ?_ ?_ ?_ ?_
      · rintro rfl
        clear key
        go_enter Tryz.func53, Tryz.ntmps53
        go_wp2_with fail
        refine Hc.out.mono ?_
        rintro e w1 ⟨D, k, c, rfl, hg1, hD⟩
        obtain rfl : k = N := by have := hD.1; simp [Hll.out] at this; exact this.symm
        have hI1 : Ints w1 w.heap.size D k c lots := Sl.own hD
        go_wp2_with fail
        refine (c_pilesFit lo A0 np cap ps _ _ (h.keep0 hg1) Hs.out).mono ?_
        rintro e w2 ⟨rfl, hg2⟩
        rw [Hfit.out]
        have hG2 := gb_trans hg1 hg2
        go_wp2_with fail
        refine (c_impl_PluralityWinner lo w.heap.size A0 D np cap k c ps lots _ (h.keep0 hG2) (hI1.keep0 hg2) Hs.out Hfit.out Hp.out).mono ?_
        rintro e w3 ⟨rfl, hg3⟩
        go_wp2
        go_ret
        exact ⟨rfl, gb_trans hG2 hg3⟩
      · rintro rfl
        clear key
        go_enter Tryz.func53, Tryz.ntmps53
        go_wp2_with fail
        refine Hc.out.mono ?_
        rintro e w1 ⟨D, k, c, rfl, hg1, hD⟩
        obtain rfl : k = N := by have := hD.1; simp [Hll.out] at this; exact this.symm
        have hI1 : Ints w1 w.heap.size D k c lots := Sl.own hD
        go_wp2_with fail
        refine (c_pilesFit lo A0 np cap ps _ _ (h.keep0 hg1) Hs.out).mono ?_
        rintro e w2 ⟨rfl, hg2⟩
        rw [Hfit.out]
        have hG2 := gb_trans hg1 hg2
        go_wp2_with fail
        refine (c_impl_RunoffWinner lo w.heap.size A0 D np cap k c ps lots _ (h.keep0 hG2) (hI1.keep0 hg2) Hs.out Hfit.out Hp.out).mono ?_
        rintro e w3 ⟨rfl, hg3⟩
        go_wp2
        go_ret
        exact ⟨rfl, gb_trans hG2 hg3⟩
      · rintro rfl
        clear key
        go_enter Tryz.func53, Tryz.ntmps53
        go_wp2_with fail
        refine Hc.out.mono ?_
        rintro e w1 ⟨D, k, c, rfl, hg1, hD⟩
        obtain rfl : k = N := by have := hD.1; simp [Hll.out] at this; exact this.symm
        have hI1 : Ints w1 w.heap.size D k c lots := Sl.own hD
        clear hD
        go_wp2_with fail
        refine (c_pilesFit lo A0 np cap ps _ _ (h.keep0 hg1) Hs.out).mono ?_
        rintro e w2 ⟨rfl, hg2⟩
        rw [Hfit.out]
        have hG2 := gb_trans hg1 hg2
        have hI2 := hI1.keep0 hg2
        have HI2 := Lib.hid hI2
        obtain ⟨w0, hmk, hg0, hown0⟩ := mk_bools k (by omega) w2
        have hG0 := gb_trans hG2 hg0
        clear hI1 hg1
        go_wp2_with fail
        refine (c_impl_PairBest lo A0 np cap k ps _ (h.keep0 hG0) Hs.out Hfit.out).mono ?_
        rintro e w3 ⟨B, mm, cB, rfl, hg3, hB⟩
        have hG3 := gb_trans hG0 hg3
        obtain ⟨xs, hxs⟩ : ∃ xs, bestL (paths (cnt ps) k) k = xs := ⟨_, rfl⟩
        have Hxs := Lib.hid hxs
        have hxr : Hid (∀ z ∈ xs, ∃ q : Nat, z = (q : Int) ∧ q < k) := Lib.hid (fun z hz => by
          rw [← hxs] at hz
          obtain ⟨q, e, hq, _⟩ := mem_bestL.1 hz
          exact ⟨q, e, hq⟩)
        rw [hxs] at hB
        have hIB : Ints w3 w0.heap.size B mm cB xs := Sl.own hB
        have hxl := Lib.hid hIB.len
        have hBc := hIB.le
        have hBm := hIB.max
        have hown3 := own_below hown0 hg3
        have hg23 := gb_trans hg0 hg3
        have hbl : Hid (w2.heap.size < w0.heap.size) := Lib.hid (hown0.lt w2.heap.size rfl).2
        clear hmk hown0 hB hxs hg3 hg2 hI2
        go_wp2
        go_loopw [47] (fun i wr => ∃ j : Nat, j ≤ mm ∧ i = .int .i64 j ∧ w2.grownBy wr none ∧ w3.grownBy wr (some w2.heap.size) ∧ wr.ownsRow w2.heap.size 4 1 (.slice (some ⟨w2.heap.size, 0, none⟩) k k) k ((someB (xs.take j) k).map Value.bool)) (fun i _ => mm - (intOf i).toNat)
        case atStart => exact ⟨0, Nat.zero_le _, rfl, hg23, gb_refl _ _, by rw [List.take_zero, someB_nil]; exact hown3⟩
        case round =>
          obtain ⟨j, hj, rfl, hgr, hg3r, hown⟩ := hrel
          rename World => wr
          clear hown3
          by_cases hjlt : j < mm
          · have hIr : Ints wr w0.heap.size B mm cB xs := Sl.keep hIB hg3r (fun g e => by injection e with e; have := hbl.out; omega)
            obtain ⟨b, off, z, rfl, hz, hcell⟩ := Ints.at_ hIr hjlt
            obtain ⟨q, rfl, hqk⟩ := hxr.out z (List.mem_of_getElem? hz.out)
            have hst : Hid (someB (xs.take (j + 1)) k = (someB (xs.take j) k).set q true) := Lib.hid (by rw [take_succ_of hz.out, someB_snoc])
            obtain ⟨u, hcu⟩ := own_cell hown hqk
            have hfu := hown.frozenAt q
            obtain ⟨hst2, hgs2⟩ := hown.stored q (.bool true)
            have hst3 : (wr.setCell ⟨w2.heap.size, q, none⟩ (.bool true)).ownsRow w2.heap.size 4 1 (.slice (some ⟨w2.heap.size, 0, none⟩) k k) k ((someB (xs.take (j + 1)) k).map Value.bool) := by rw [hst.out, List.map_set]; exact hst2
            have hG5 := gb_setCell (p := ⟨w2.heap.size, q, none⟩) hgr (.inr (Nat.le_refl _)) (.bool true)
            have hG6 := gb_setCell (p := ⟨w2.heap.size, q, none⟩) hg3r (.inl rfl) (.bool true)
            have hj' : (j : Int) < (mm : Int) := by omega
            have hj0 : (0 : Int) ≤ (j : Int) := by omega
            have hq0 : (0 : Int) ≤ (q : Int) := by omega
            have hqn' : (q : Int) < (k : Int) := by omega
            clear hz hst2 hown hIr
            go_wp2
            go_roundw
            case rel => exact ⟨j + 1, by omega, by go_num, hG5, hG6, hst3⟩
            case measure => simp [intOf]; omega
          · obtain rfl : j = mm := by omega
            rw [List.take_of_length_le (by rw [hxl.out]; exact Nat.le_refl _)] at hown
            have hBw : Bls wr w2.heap.size (some ⟨w2.heap.size, 0, none⟩) k k (someB xs k) := Sl.own hown
            have hIw : Ints wr w.heap.size D k c lots := HI2.out.keep0 hgr
            go_wp2_with fail
            refine (c_LotsFirst w.heap.size w2.heap.size D _ k c k lots (someB xs k) wr hIw hBw Hval.out).mono ?_
            rintro e w5 ⟨rfl, rfl⟩
            go_wp2
            go_ret
            exact ⟨ret_int (by unfold pWin; rw [Hxs.out]), gb_trans hG2 hgr⟩
      · intro hm
        clear key
        have m1 : (m == 1) = false := by simp; omega
        have m2 : (m == 2) = false := by simp; omega
        have m3 : (m == 3) = false := by simp; omega
        clear hm
        go_enter Tryz.func53, Tryz.ntmps53
        go_wp2_with fail
        refine Hc.out.mono ?_
        rintro e w1 ⟨D, k, c, rfl, hg1, hD⟩
        go_wp2_with fail
        refine (c_pilesFit lo A0 np cap ps _ _ (h.keep0 hg1) Hs.out).mono ?_
        rintro e w2 ⟨rfl, hg2⟩
        rw [Hfit.out]
        go_wp2
        go_ret
        exact ⟨rfl, gb_trans hg1 hg2⟩
    · have hno := Lib.hid (conOK_no (ps := ps) (n := n) (m := m) (s := s) (fun e => hF e.1))
      have hF' : Hid (fitOK ps n = false) := Lib.hid (by simpa using hF)
      have HL := Lib.hid hL
      clear hF hL hLL
      go_enter Tryz.func53, Tryz.ntmps53
      go_wp2_with fail
      refine (c_impl_LotsOf n s w).mono ?_
      rintro e w1 ⟨D, k, c, rfl, hg1, hD⟩
      rw [HL.out]
      go_wp2_with fail
      refine (c_pilesFit lo A0 np cap ps _ _ (h.keep0 hg1) Hs.out).mono ?_
      rintro e w2 ⟨rfl, hg2⟩
      rw [hF'.out]
      go_wp2
      go_ret
      exact ⟨ret_int hno.out.symm, gb_trans hg1 hg2⟩
  · have hL' : lotsOK n s = false := by simpa using hL
    have hno := Lib.hid (conOK_no (ps := ps) (n := n) (m := m) (s := s) (fun e => hL ((lotsOK_iff n s).2 ⟨(fit_many e.1).2.2, e.2.2⟩)))
    have HL := Lib.hid hL'
    clear hL hL'
    go_enter Tryz.func53, Tryz.ntmps53
    go_wp2_with fail
    refine (c_impl_LotsOf n s w).mono ?_
    rintro e w1 ⟨D, k, c, rfl, hg1, hD⟩
    rw [HL.out]
    go_wp2
    go_ret
    exact ⟨ret_int hno.out.symm, hg1⟩
/-- What the reference takes for a contest. -/
theorem c_l42Ok (lo : Nat) (A0 : Option Addr) (np cap : Nat) (ps : List Pl) (n m s : Int) (w : World) (h : Piles w lo A0 np cap ps) (hs : ∀ p ∈ ps, p.1.size ≤ 2000000) :
    Calls Tryz.prog 67 #[.slice A0 np cap, .int .i64 n, .int .i64 m, .int .i64 s] w fun e w' => e = .returned (.bool (conOK ps n m s)) ∧ w.grownBy w' none := by
  obtain ⟨F, hF⟩ : ∃ F, fitOK ps n = F := ⟨_, rfl⟩
  obtain ⟨M, hM⟩ : ∃ M, inB m 1 3 = M := ⟨_, rfl⟩
  obtain ⟨S, hS⟩ : ∃ S, inB s 0 999 = S := ⟨_, rfl⟩
  have hf : Hid (conOK ps n m s = (F && M && S)) := Lib.hid (by unfold conOK; rw [hF, hM, hS])
  have HF := Lib.hid hF
  have HM := Lib.hid hM
  have HS := Lib.hid hS
  have Hs := Lib.hid hs
  clear hF hM hS hs
  go_enter Tryz.func67, Tryz.ntmps67
  go_wp2_with fail
  refine (c_l3Fits lo A0 np cap ps _ _ h Hs.out).mono ?_
  rintro e w1 ⟨rfl, hg1⟩
  rw [HF.out]
  cases F with
  | false =>
    go_wp2
    go_ret
    exact ⟨ret_bool (by rw [hf.out]; rfl), hg1⟩
  | true =>
    go_wp2_with fail
    refine (c_l6In _ _ _ _).mono ?_
    rintro e w2 ⟨rfl, rfl⟩
    rw [HM.out]
    cases M with
    | false =>
      go_wp2
      go_ret
      exact ⟨ret_bool (by rw [hf.out]; rfl), hg1⟩
    | true =>
      go_wp2_with fail
      refine (c_l6In _ _ _ _).mono ?_
      rintro e w2 ⟨rfl, rfl⟩
      rw [HS.out]
      go_wp2
      go_ret
      exact ⟨ret_bool (by rw [hf.out]; rfl), hg1⟩

set_option maxHeartbeats 4000000 in
set_option maxRecDepth 100000 in
theorem c_l42Winner (lo : Nat) (A0 : Option Addr) (np cap N S : Nat) (ps : List Pl) (m : Int) (w : World) (h : Piles w lo A0 np cap ps) (hs : ∀ p ∈ ps, p.1.size ≤ 2000000) (hfit : fitOK ps (N : Int) = true) (hS9 : S ≤ 999) :
    Calls Tryz.prog 71 #[.slice A0 np cap, .int .i64 N, .int .i64 m, .int .i64 S] w fun e w' => e = .returned (.int .i64 (winM ps N m (lotsOf N S))) ∧ w.grownBy w' none := by
  have Hs := Lib.hid hs
  have hN := (fit_many hfit).2.2
  have hN1 : 1 ≤ N := by omega
  have hN5 : N ≤ 5 := by omega
  have hL : lotsOK (N : Int) (S : Int) = true := (lotsOK_iff _ _).2 ⟨by omega, by omega⟩
  have hcl := c_spec_LotsOf (N : Int) (S : Int) w
  have hres : lotsRes (N : Int) (S : Int) = lotsOf N S := by unfold lotsRes; rw [hL, if_pos rfl, Int.toNat_natCast, Int.toNat_natCast]
  rw [hL, hres] at hcl
  have Hc := Lib.hid hcl
  have Hp := Lib.hid (lotsOf_perm N S)
  have Hll := Lib.hid (lotsOf_len N S)
  have Hfit := Lib.hid hfit
  obtain ⟨lots, hlots⟩ : ∃ l, lotsOf N S = l := ⟨_, rfl⟩
  rw [hlots] at Hc Hp Hll ⊢
  have hrange := Lib.hid (show ∀ z ∈ lots, 0 ≤ z ∧ z < (N : Int) from fun z hz => mem_iota.1 (Hp.out.mem_iff.1 hz))
  clear hL hN hcl hres hlots hs hfit
  by_cases h1 : m = 1
  · subst h1
    go_enter Tryz.func71, Tryz.ntmps71
    go_wp2_with fail
    refine Hc.out.mono ?_
    rintro e w1 ⟨D, k, c, rfl, hg1, hD⟩
    obtain rfl : k = N := by have := hD.1; simp [Hll.out] at this; exact this.symm
    have hI1 : Ints w1 w.heap.size D k c lots := Sl.own hD
    go_wp2_with fail
    refine (c_spec_PluralityWinner lo w.heap.size A0 D np cap k c ps lots _ (h.keep0 hg1) hI1 Hs.out Hfit.out Hp.out).mono ?_
    rintro e w3 ⟨rfl, hg3⟩
    go_wp2
    go_ret
    exact ⟨rfl, gb_trans hg1 hg3⟩
  by_cases h2 : m = 2
  · subst h2
    go_enter Tryz.func71, Tryz.ntmps71
    go_wp2_with fail
    refine Hc.out.mono ?_
    rintro e w1 ⟨D, k, c, rfl, hg1, hD⟩
    obtain rfl : k = N := by have := hD.1; simp [Hll.out] at this; exact this.symm
    have hI1 : Ints w1 w.heap.size D k c lots := Sl.own hD
    go_wp2_with fail
    refine (c_spec_RunoffWinner lo w.heap.size A0 D np cap k c ps lots _ (h.keep0 hg1) hI1 Hs.out Hfit.out Hp.out).mono ?_
    rintro e w3 ⟨rfl, hg3⟩
    go_wp2
    go_ret
    exact ⟨rfl, gb_trans hg1 hg3⟩
  have hw : Hid (winM ps N m lots = pWin (cnt ps) N lots) := Lib.hid (by unfold winM; rw [if_neg h1, if_neg h2])
  have m1 : (m == 1) = false := by simpa using h1
  have m2 : (m == 2) = false := by simpa using h2
  clear h1 h2
  go_enter Tryz.func71, Tryz.ntmps71
  go_wp2_with fail
  refine Hc.out.mono ?_
  rintro e w1 ⟨D, k, c, rfl, hg1, hD⟩
  obtain rfl : k = N := by have := hD.1; simp [Hll.out] at this; exact this.symm
  have hI1 : Ints w1 w.heap.size D k c lots := Sl.own hD
  go_wp2_with fail
  refine (c_spec_PairBest lo A0 np cap k ps _ (h.keep0 hg1) Hs.out Hfit.out).mono ?_
  rintro e w3 ⟨B, mm, cB, rfl, hg3, hB⟩
  have hG3 := gb_trans hg1 hg3
  have hIB : Ints w3 w1.heap.size B mm cB _ := Sl.own hB
  have hI3 := hI1.keep0 hg3
  clear hD hI1 hB hg3 hg1
  go_wp2_with fail
  refine (c_l42Some w1.heap.size B mm cB _ k w3 hIB (by omega)).mono ?_
  rintro e w4 ⟨E, cE, rfl, hg4, hE⟩
  have hG4 := gb_trans hG3 hg4
  have hB4 : Bls w4 w3.heap.size E k cE _ := Sl.own hE
  have hI4 := hI3.keep0 hg4
  clear hE hg4 hI3 hIB
  go_wp2_with fail
  refine (c_l4First w.heap.size w3.heap.size D E k c k cE lots _ w4 hI4 hB4 hrange.out).mono ?_
  rintro e w5 ⟨rfl, rfl⟩
  go_wp2
  go_ret
  exact ⟨ret_int (by rw [hw.out]; rfl), hG4⟩




end Go.Proofs.YtboobimpoddacaaGreatDoor
