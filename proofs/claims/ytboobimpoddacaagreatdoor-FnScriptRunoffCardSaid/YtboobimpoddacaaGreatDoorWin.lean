/-
  The winners by plurality and by a runoff.
-/
import Derived.Test.YtboobimpoddacaaGreatDoorRndsI
namespace Go.Proofs.YtboobimpoddacaaGreatDoor
open Go.RowKit
set_option linter.unusedVariables false

def plurW (ps : List Pl) (lots : List Int) (N : Nat) : Int := gBest (fCounts (List.replicate N false) ps) lots

theorem c_impl_PluralityWinner (lo lo' : Nat) (A0 B0 : Option Addr) (np cap N cap' : Nat) (ps : List Pl) (lots : List Int) (w : World) (h : Piles w lo A0 np cap ps) (h' : Ints w lo' B0 N cap' lots) (hs : ∀ p ∈ ps, p.1.size ≤ 2000000) (hfit : fitOK ps N = true) (hp : lots.Perm (iota N)) :
    Calls Tryz.prog 84 #[.slice A0 np cap, .slice B0 N cap'] w fun e w' => e = .returned (.int .i64 (plurW ps lots N)) ∧ w.grownBy w' none := by
  have hlc := h'.le
  have hcm := h'.max
  have Hs := Lib.hid hs
  have Hfit := Lib.hid hfit
  have hN5 : 1 ≤ N ∧ N ≤ 5 := by have := (fit_many hfit).2.2; omega
  have hrange := Lib.hid (show ∀ z ∈ lots, 0 ≤ z ∧ z < (N : Int) from fun z hz => mem_iota.1 (hp.mem_iff.1 hz))
  have hval := Lib.hid (perm_valid hp hN5)
  obtain ⟨hN1, hN5⟩ := hN5
  clear hs hp hfit
  go_enter Tryz.func84, Tryz.ntmps84
  go_wp2_with fail
  refine (c_impl_LotsValid lo' B0 N cap' lots _ h').mono ?_
  rintro e w1 ⟨rfl, rfl⟩
  rw [hval.out]
  go_wp2_with fail
  refine (c_pilesFit lo A0 np cap ps _ _ h Hs.out).mono ?_
  rintro e wb ⟨rfl, hgb⟩
  rw [Hfit.out]
  obtain ⟨w0, hmk, hg0, hown0⟩ := mk_bools N (by omega) wb
  have hG0 := gb_trans hgb hg0
  go_wp2_with fail
  refine (c_firstCounts lo wb.heap.size A0 _ np cap N N ps (List.replicate N false) w0 (h.keep0 hG0) (Sl.own hown0) Hs.out Hfit.out).mono ?_
  rintro e w2 ⟨D, rfl, hg2, hD⟩
  have hG2 := gb_trans hG0 hg2
  have hI2 : Ints w2 w0.heap.size D N N (fCounts (List.replicate N false) ps) := Sl.own hD
  clear hmk hg0 hown0 hgb hD hg2
  go_wp2_with fail
  refine (c_greatest lo' _ B0 D N cap' N N lots _ w2 (h'.keep0 hG2) hI2 hrange.out (by omega)).mono ?_
  rintro e w3 ⟨rfl, d, rfl⟩
  go_wp2
  go_ret
  exact ⟨rfl, gb_drewN hG2 d⟩

theorem c_l11Winner (lo lo' : Nat) (A0 B0 : Option Addr) (np cap N cap' : Nat) (ps : List Pl) (lots : List Int) (w : World) (h : Piles w lo A0 np cap ps) (h' : Ints w lo' B0 N cap' lots) (hs : ∀ p ∈ ps, p.1.size ≤ 2000000) (hfit : fitOK ps N = true) (hp : lots.Perm (iota N)) :
    Calls Tryz.prog 138 #[.slice A0 np cap, .slice B0 N cap'] w fun e w' => e = .returned (.int .i64 (plurW ps lots N)) ∧ w.grownBy w' none := by
  have hlc := h'.le
  have hcm := h'.max
  have Hs := Lib.hid hs
  have Hfit := Lib.hid hfit
  have Hp := Lib.hid hp
  have hN5 : 1 ≤ N ∧ N ≤ 5 := by have := (fit_many hfit).2.2; omega
  have hrange := Lib.hid (show ∀ z ∈ lots, 0 ≤ z ∧ z < (N : Int) from fun z hz => mem_iota.1 (hp.mem_iff.1 hz))
  obtain ⟨hN1, hN5⟩ := hN5
  have hnn := Lib.hid (fun z hz => (fit_bounds hfit (List.replicate N false) z hz).1)
  clear hs hp hfit
  obtain ⟨w0, hmk, hG0, hown0⟩ := mk_bools N (by omega) w
  go_enter Tryz.func138, Tryz.ntmps138
  go_wp2_with fail
  refine (c_l11Counts lo w.heap.size A0 _ np cap N N ps (List.replicate N false) w0 (h.keep0 hG0) (Sl.own hown0) Hs.out Hfit.out).mono ?_
  rintro e w2 ⟨D, rfl, hg2, hD⟩
  have hG2 := gb_trans hG0 hg2
  have hI2 : Ints w2 w0.heap.size D N N (fCounts (List.replicate N false) ps) := Sl.own hD
  have hcl : Hid ((fCounts (List.replicate N false) ps).length = N) := Lib.hid (by rw [fCounts_len]; simp)
  clear hmk hown0 hD hg2
  go_wp2_with fail
  refine (c_l11All N _ (by omega)).mono ?_
  rintro e w3 ⟨E, c3, rfl, hg3, hE⟩
  have hG3 := gb_trans hG2 hg3
  have hB3 : Bls w3 w2.heap.size E N c3 (List.replicate N true) := Sl.own hE
  have hI3 := hI2.keep0 hg3
  clear hE hg3 hI2
  go_wp2_with fail
  refine (c_l11Most w0.heap.size w2.heap.size D E N N c3 _ (List.replicate N true) w3 hI3 hB3 (by omega)).mono ?_
  rintro e w4 ⟨F, c4, rfl, hg4, hF⟩
  have hG4 := gb_trans hG3 hg4
  have hB4 : Bls w4 w3.heap.size F N c4 _ := Sl.own hF
  clear hF hg4 hI3 hB3
  go_wp2_with fail
  refine (c_l4First lo' w3.heap.size B0 F N cap' N c4 lots _ w4 (h'.keep0 hG4) hB4 hrange.out).mono ?_
  rintro e w5 ⟨rfl, rfl⟩
  rw [plur_first Hp.out hcl.out hN1 hnn.out]
  go_wp2
  go_ret
  exact ⟨rfl, hG4⟩

theorem c_spec_PluralityWinner (lo lo' : Nat) (A0 B0 : Option Addr) (np cap N cap' : Nat) (ps : List Pl) (lots : List Int) (w : World) (h : Piles w lo A0 np cap ps) (h' : Ints w lo' B0 N cap' lots) (hs : ∀ p ∈ ps, p.1.size ≤ 2000000) (hfit : fitOK ps N = true) (hp : lots.Perm (iota N)) :
    Calls Tryz.prog 104 #[.slice A0 np cap, .slice B0 N cap'] w fun e w' => e = .returned (.int .i64 (plurW ps lots N)) ∧ w.grownBy w' none := by
  have hlc := h'.le
  have hcm := h'.max
  have Hs := Lib.hid hs
  have Hfit := Lib.hid hfit
  have Hp := Lib.hid hp
  have hN5 : 1 ≤ N ∧ N ≤ 5 := by have := (fit_many hfit).2.2; omega
  have hrange := Lib.hid (show ∀ z ∈ lots, 0 ≤ z ∧ z < (N : Int) from fun z hz => mem_iota.1 (hp.mem_iff.1 hz))
  have hval := Lib.hid (perm_valid hp hN5)
  obtain ⟨hN1, hN5⟩ := hN5
  clear hs hp hfit
  go_enter Tryz.func104, Tryz.ntmps104
  go_wp2_with fail
  refine (c_spec_LotsValid lo' B0 N cap' lots _ h').mono ?_
  rintro e w1 ⟨rfl, d, rfl⟩
  rw [hval.out]
  go_wp2_with fail
  refine (c_l3Fits lo A0 np cap ps _ _ (h.keep0 (gb_drewN (gb_refl w none) d)) Hs.out).mono ?_
  rintro e wb ⟨rfl, hgb⟩
  rw [Hfit.out]
  have hGb : w.grownBy wb none := gb_trans (gb_drewN (gb_refl w none) d) hgb
  clear hgb
  go_wp2_with fail
  refine (c_l11Winner lo lo' A0 B0 np cap N cap' ps lots wb (h.keep0 hGb) (h'.keep0 hGb) Hs.out Hfit.out Hp.out).mono ?_
  rintro e w5 ⟨rfl, hg5⟩
  go_wp2
  go_ret
  exact ⟨rfl, gb_trans hGb hg5⟩

set_option maxHeartbeats 400000 in
set_option maxRecDepth 100000 in
theorem c_CloneInt (lo : Nat) (A : Option Addr) (n cap : Nat) (xs : List Int) (w : World) (h : Ints w lo A n cap xs) (hn : n ≤ 2000000) :
    Calls Tryz.prog 123 #[.slice A n cap] w fun e w' => ∃ B c, e = .returned (.slice B n c) ∧ w.grownBy w' none ∧ w'.ownsRow w.heap.size 3 1 (.slice B n c) n (xs.map (Value.int .i64)) := by
  have hga := gb_alloc (gb_refl w none) (.cells #[] 3)
  have hz := hga.size
  have hpl := h.len
  cases A with
  | none =>
    obtain rfl := Sl.none_zero h rfl
    have hp0 : xs = [] := List.eq_nil_of_length_eq_zero hpl
    subst hp0
    have hq := Lib.run_eql_slice_nil (P := Tryz.prog) w 62 3 none 0 cap 0 0 Tryz.underlying62
    go_enter Tryz.func123, Tryz.ntmps123
    go_wp2_with (simp only [hq, Option.isNone])
    go_ret
    exact ⟨none, 0, rfl, gb_refl _ _, own_nil _ _ _ _⟩
  | some a =>
    clear hpl
    have hq := Lib.run_eql_slice_nil (P := Tryz.prog) w 62 3 (some a) n cap 0 0 Tryz.underlying62
    go_enter Tryz.func123, Tryz.ntmps123
    go_wp2_with (first | (simp only [hq, Option.isNone]) | (at_builtin; refine wpList_appAll intE rfl _ _ rfl w.heap.size lo 0 n cap _ [] _ (some a) rfl (own_empty _ _ _ _ (Nat.le_refl _)) rfl (Sl.keep0 h hga) (fun u hu => by obtain ⟨y, _, rfl⟩ := List.mem_map.1 hu; rfl) (by omega) (by omega) hz ?_; intro B' c' w3 hown3 hb3 hg3 hat3; rw [Nat.zero_add] at hown3 hat3 ⊢))
    go_ret
    exact ⟨B', c', rfl, gb_of_below ((gb_below hga).trans hb3) none, hown3⟩

def runW (ps : List Pl) (lots : List Int) : Int := rWin (rRounds ps lots) lots
theorem cutOf_snoc (cs : List Int) (rs : List Rnd) (r : Rnd) : cutOf cs (rs ++ [r]) = (cutOf cs rs).set r.2.toNat (-1) := by simp [cutOf]
theorem cutOf_len (cs : List Int) (rs : List Rnd) : (cutOf cs rs).length = cs.length := by
  induction rs using snocInd with
  | nil => rfl
  | append_singleton l r ih => rw [cutOf_snoc, List.length_set, ih]
theorem goneOf_snoc (left : List Bool) (rs : List Rnd) (r : Rnd) : goneOf left (rs ++ [r]) = (goneOf left rs).set r.2.toNat true := by simp [goneOf]

set_option maxHeartbeats 4000000 in
set_option maxRecDepth 100000 in
theorem c_impl_RunoffWinner (lo lo' : Nat) (A0 B0 : Option Addr) (np cap N cap' : Nat) (ps : List Pl) (lots : List Int) (w : World) (h : Piles w lo A0 np cap ps) (h' : Ints w lo' B0 N cap' lots) (hs : ∀ p ∈ ps, p.1.size ≤ 2000000) (hfit : fitOK ps N = true) (hp : lots.Perm (iota N)) :
    Calls Tryz.prog 85 #[.slice A0 np cap, .slice B0 N cap'] w fun e w' => e = .returned (.int .i64 (runW ps lots)) ∧ w.grownBy w' none := by
  have hlc := h'.le
  have hcm := h'.max
  have hN5 : 1 ≤ N ∧ N ≤ 5 := by have := (fit_many hfit).2.2; omega
  have hrange := Lib.hid (show ∀ z ∈ lots, 0 ≤ z ∧ z < (N : Int) from fun z hz => mem_iota.1 (hp.mem_iff.1 hz))
  have hll : lots.length = N := h'.len
  obtain ⟨ini, hini, _, hi1, hi2, hi3⟩ := rGo_shape (ps := ps) hp N (List.replicate N false) (by simp) (by simp) hN5.1
  obtain ⟨C, hC⟩ : ∃ C, fCounts (goneOf (List.replicate N false) ini) ps = C := ⟨_, rfl⟩
  have hCl : Hid (C.length = N) := Lib.hid (by rw [← hC, fCounts_len, goneOf_len]; simp)
  have hrr : rRounds ps lots = ini ++ [(C, -1)] := by unfold rRounds; rw [hll, hini, hC]
  have hwin : Hid (runW ps lots = gBest (cutOf C ini) lots) := Lib.hid (by unfold runW rWin; rw [hrr, List.dropLast_concat, show (ini ++ [(C, (-1 : Int))]).getLastD ([], -1) = (C, -1) from by simp [List.getLastD_eq_getLast?]])
  have Hi1 := Lib.hid hi1
  have hcall := c_RunoffRounds lo lo' A0 B0 np cap N cap' ps lots w h h' hs hfit hp
  rw [hrr] at hcall
  have Hc := Lib.hid hcall
  obtain ⟨m, hm⟩ : ∃ m, ini.length = m := ⟨_, rfl⟩
  have Hm := Lib.hid hm
  have hmN : m + 1 ≤ N := by omega
  obtain ⟨hN1, hN5⟩ := hN5
  clear hini hi1 hi2 hi3 hC hrr hcall hm hs hp hfit hll
  go_enter Tryz.func85, Tryz.ntmps85
  go_wp2_with fail
  refine Hc.out.mono ?_
  rintro e w1 ⟨A, n, c, hd, rfl, hg1, hO⟩
  clear Hc
  obtain rfl : n = m + 1 := by have := hO.xlen; rw [List.length_append, Hm.out] at this; simpa using this.symm
  obtain ⟨b, r, d, rfl, hr, hIr, m0a, m1⟩ := hO.at_ (k := m) (by omega)
  obtain rfl : r = (C, -1) := by
    have := hr.out
    rw [List.getElem?_append_right (by rw [Hm.out]; exact Nat.le_refl _), Hm.out, Nat.sub_self] at this
    simpa using this.symm
  obtain ⟨dA, dc⟩ := d
  have hIr : Ints w1 w.heap.size dA N dc C := by have := hIr; rw [hCl.out] at this; exact this
  have m0 : w1.cell? ⟨b, m * 2, none⟩ = some (.slice dA N dc) := by have := m0a; rw [hCl.out] at this; exact this
  have hnc := (Sl.own hO.row).1
  have hncm := Sl.max (Sl.own hO.row)
  have hw1 : IntKind.i64.wrap ((m : Int) + 1 - 1) = (m : Int) := by rw [IntWalk.i64_in _ (by omega)]; omega
  have hw2 : (m : Int) + 1 - 1 = (m : Int) := by omega
  have hw3 : IntKind.i64.wrap (m : Int) = (m : Int) := IntWalk.i64_in _ (by omega)
  have hm0 : (0 : Int) ≤ (m : Int) := by omega
  have hm1 : (m : Int) < (m : Int) + 1 := by omega
  have hmc : (m : Int) ≤ (c : Int) := by omega
  have HO := Lib.hid hO
  clear hr m1 hO m0a
  go_wp2_with fail
  refine (c_CloneInt w.heap.size dA N dc C w1 hIr (by omega)).mono ?_
  rintro e w2 ⟨B, cB, rfl, hg2, hB⟩
  have hG2 := gb_trans hg1 hg2
  have hB0 : Hid (w2.ownsRow w1.heap.size 3 1 (.slice B N cB) N ((cutOf C (ini.take 0)).map (Value.int .i64))) := Lib.hid (by rw [List.take_zero]; exact hB)
  have hsz2 := hg2.size
  clear hIr m0 hB
  go_wp2
  go_loopw [32] (fun i wr => ∃ j : Nat, j ≤ m ∧ i = .int .i64 j ∧ w1.grownBy wr none ∧ wr.ownsRow w1.heap.size 3 1 (.slice B N cB) N ((cutOf C (ini.take j)).map (Value.int .i64))) (fun i _ => m - (intOf i).toNat)
  case atStart => exact ⟨0, Nat.zero_le _, rfl, hg2, hB0.out⟩
  case round =>
    obtain ⟨j, hj, rfl, hG, hown⟩ := hrel
    rename World => wr
    clear hB0 hsz2
    by_cases hlt : j < m
    · obtain ⟨b', r, d, he, hr, _, q0, q1⟩ := (HO.out.keep hG).at_ (k := j) (by omega)
      injection he with he
      injection he with he1 he2
      subst he1
      have hr' : ini[j]? = some r := by have := hr.out; rwa [List.getElem?_append_left (by rw [Hm.out]; exact hlt)] at this
      obtain ⟨q, hq, hqN⟩ := Hi1.out r (List.mem_of_getElem? hr')
      obtain ⟨rc, ro⟩ := r
      have hq : ro = (q : Int) := hq
      subst hq
      have hst : Hid (cutOf C (ini.take (j + 1)) = (cutOf C (ini.take j)).set q (-1)) := Lib.hid (by rw [take_succ_of hr', cutOf_snoc]; rfl)
      have q1 : wr.cell? ⟨b, j * 2 + 1, none⟩ = some (.int .i64 (q : Int)) := q1
      obtain ⟨g, rfl, hg0, hg1'⟩ := own_adr hown (by omega)
      have hBk := Blk.new wr 83 #[.slice d.1 rc.length d.2, .int .i64 (q : Int)]
      have hga := gb_alloc (gb_refl wr none) (.cells #[.slice d.1 rc.length d.2, .int .i64 (q : Int)] 83)
      have hown2 := own_below hown hga
      obtain ⟨u, hcu⟩ := own_cell hown2 hqN
      have hfu := hown2.frozenAt q
      obtain ⟨hst2, hgs2⟩ := hown2.stored q (.int .i64 (-1))
      have hst3 : ((wr.setCell ⟨g, q, none⟩ (.int .i64 (-1))).alloc (.cells #[.slice d.1 rc.length d.2, .int .i64 (q : Int)] 83)).ownsRow w1.heap.size 3 1 (.slice (some ⟨g, 0, none⟩) N cB) N ((cutOf C (ini.take (j + 1))).map (Value.int .i64)) := own_below (by rw [hst.out, List.map_set]; exact (hown.stored q (.int .i64 (-1))).1) (gb_alloc (gb_refl _ none) _)
      have hG3 := gb_alloc (gb_setCell (p := ⟨g, q, none⟩) hG (.inr hg0) (.int .i64 (-1))) (.cells #[.slice d.1 rc.length d.2, .int .i64 (q : Int)] 83)
      have q2 : wr.cell? ⟨b, j * 2, none⟩ = some (.slice d.1 rc.length d.2) := q0
      have hj' : (j : Int) < (m : Int) := by omega
      have hj0 : (0 : Int) ≤ (j : Int) := by omega
      have hq0 : (0 : Int) ≤ (q : Int) := by omega
      have hqn' : (q : Int) < (N : Int) := by omega
      obtain ⟨dA', dc'⟩ := d
      clear hr hr' hst2 hown hown2 hga q0
      go_wp2
      go_roundw
      case rel => exact ⟨j + 1, by omega, by go_num, hG3, hst3⟩
      case measure => simp [intOf]; omega
    · obtain rfl : j = m := by omega
      rw [List.take_of_length_le (by rw [Hm.out]; exact Nat.le_refl _)] at hown
      have hI : Ints wr w1.heap.size B N cB (cutOf C ini) := Sl.own hown
      have hGw := gb_trans hg1 hG
      go_wp2_with fail
      refine (c_greatest lo' _ B0 B N cap' N cB lots _ wr (h'.keep0 hGw) hI hrange.out (by omega)).mono ?_
      rintro e w3 ⟨rfl, dd, rfl⟩
      go_wp2
      go_ret
      exact ⟨ret_int hwin.out.symm, gb_drewN hGw dd⟩
/-- What the operations of the last region of the reference's RunoffWinner leave. -/
def winFacts (L b m N cA cap' : Nat) (B0 dA : Option Addr) (dc : Nat) (gl : Option Addr) (cl : Nat) (nb mb : List Bool) (R : Int) : Nat → Value → World → Prop
  | 0 => fun v _ => v = .slice B0 N cap'
  | 1 => fun v _ => v = .slice (some ⟨b, 0, none⟩) (m + 1) cA
  | 2 => fun v _ => v = .slice (some ⟨b, 0, none⟩) (m + 1) cA
  | 3 => fun v _ => v = .int .i64 ((m : Int) + 1)
  | 4 => fun v _ => v = .int .i64 (m : Int)
  | 5 => fun v _ => v = .pointer (some ⟨b, m * 2, none⟩)
  | 6 => fun v _ => v = .pointer (some ⟨b, m * 2, none⟩)
  | 7 => fun v _ => v = .slice dA N dc
  | 8 => fun v _ => v = .slice gl N cl
  | 9 => fun v x => ∃ B c, v = .slice B N c ∧ Bls x L B N c nb
  | 10 => fun v x => ∃ B c, v = .slice B N c ∧ Bls x L B N c mb
  | _ => fun v _ => v = .int .i64 R
theorem winFacts_kept {L b m N cA cap' : Nat} {B0 dA : Option Addr} {dc : Nat} {gl : Option Addr} {cl : Nat} {nb mb : List Bool} {R : Int} {x y : World} (hg : x.grownBy y none) : ∀ i v, winFacts L b m N cA cap' B0 dA dc gl cl nb mb R i v x → winFacts L b m N cA cap' B0 dA dc gl cl nb mb R i v y := by
  intro i v hv
  unfold winFacts at *
  split at hv
  all_goals first | exact hv | (obtain ⟨B, c, e, hb⟩ := hv; exact ⟨B, c, e, Sl.keep0 hb hg⟩)

theorem c_spec_RunoffRounds (lo lo' : Nat) (A0 B0 : Option Addr) (np cap N cap' : Nat) (ps : List Pl) (lots : List Int) (w : World) (h : Piles w lo A0 np cap ps) (h' : Ints w lo' B0 N cap' lots) (hs : ∀ p ∈ ps, p.1.size ≤ 2000000) (hfit : fitOK ps N = true) (hp : lots.Perm (iota N)) :
    Calls Tryz.prog 139 #[.slice A0 np cap, .slice B0 N cap'] w fun e w' => ∃ A n c hd, e = .returned (.tuple #[.slice A n c, .bool true]) ∧ w.grownBy w' none ∧ OwnRnds w' w.heap.size A n c (rRounds ps lots) hd := by
  have hlc := h'.le
  have hcm := h'.max
  have Hs := Lib.hid hs
  have Hfit := Lib.hid hfit
  have Hp := Lib.hid hp
  have hN5 : 1 ≤ N ∧ N ≤ 5 := by have := (fit_many hfit).2.2; omega
  have hval := Lib.hid (perm_valid hp hN5)
  clear hs hp hfit
  go_enter Tryz.func139, Tryz.ntmps139
  go_wp2_with fail
  refine (c_spec_LotsValid lo' B0 N cap' lots _ h').mono ?_
  rintro e w1 ⟨rfl, d, rfl⟩
  rw [hval.out]
  go_wp2_with fail
  refine (c_l3Fits lo A0 np cap ps _ _ (h.keep0 (gb_drewN (gb_refl w none) d)) Hs.out).mono ?_
  rintro e wb ⟨rfl, hgb⟩
  rw [Hfit.out]
  have hGb : w.grownBy wb none := gb_trans (gb_drewN (gb_refl w none) d) hgb
  clear hgb
  go_wp2_with fail
  refine (c_l12Rounds lo lo' A0 B0 np cap N cap' ps lots wb (h.keep0 hGb) (h'.keep0 hGb) Hs.out Hfit.out Hp.out).mono ?_
  rintro e w2 ⟨A, n, c, hd, rfl, hg2, hO⟩
  go_wp2
  go_ret2
  exact ⟨A, n, c, hd, rfl, gb_trans hGb hg2, hO.wide hGb.size⟩

attribute [local go_sem] flowAct flowOp_def flowUpon
set_option maxHeartbeats 4000000 in
set_option maxRecDepth 100000 in
theorem c_spec_RunoffWinner (lo lo' : Nat) (A0 B0 : Option Addr) (np cap N cap' : Nat) (ps : List Pl) (lots : List Int) (w : World) (h : Piles w lo A0 np cap ps) (h' : Ints w lo' B0 N cap' lots) (hs : ∀ p ∈ ps, p.1.size ≤ 2000000) (hfit : fitOK ps N = true) (hp : lots.Perm (iota N)) :
    Calls Tryz.prog 105 #[.slice A0 np cap, .slice B0 N cap'] w fun e w' => e = .returned (.int .i64 (runW ps lots)) ∧ w.grownBy w' none := by
  have hlc := h'.le
  have hcm := h'.max
  have hN5 : 1 ≤ N ∧ N ≤ 5 := by have := (fit_many hfit).2.2; omega
  have hrange := Lib.hid (show ∀ z ∈ lots, 0 ≤ z ∧ z < (N : Int) from fun z hz => mem_iota.1 (hp.mem_iff.1 hz))
  have hll : lots.length = N := h'.len
  obtain ⟨ini, hini, _, hi1, hi2, hi3⟩ := rGo_shape (ps := ps) hp N (List.replicate N false) (by simp) (by simp) hN5.1
  obtain ⟨C, hC⟩ : ∃ C, fCounts (goneOf (List.replicate N false) ini) ps = C := ⟨_, rfl⟩
  have hCl : Hid (C.length = N) := Lib.hid (by rw [← hC, fCounts_len, goneOf_len]; simp)
  have hrr : rRounds ps lots = ini ++ [(C, -1)] := by unfold rRounds; rw [hll, hini, hC]
  obtain ⟨G, hG⟩ : ∃ G, goneOf (List.replicate N false) ini = G := ⟨_, rfl⟩
  have hGl : Hid (G.length = N) := Lib.hid (by rw [← hG, goneOf_len]; simp)
  have HG := Lib.hid hG
  have hwin : Hid (firstOf lots (mostB C (G.map (!·))) = runW ps lots) := Lib.hid (by
    have := rWin_eq (ps := ps) hp hN5.1 (fit_many hfit).1
    unfold runW
    rw [← this]
    unfold rWinS
    rw [hrr, List.dropLast_concat, show (ini ++ [(C, (-1 : Int))]).getLastD ([], -1) = (C, -1) from by simp [List.getLastD_eq_getLast?], hll, hG])
  have Hi1 := Lib.hid hi1
  have hcall := c_spec_RunoffRounds lo lo' A0 B0 np cap N cap' ps lots w h h' hs hfit hp
  rw [hrr] at hcall
  have Hc := Lib.hid hcall
  obtain ⟨m, hm⟩ : ∃ m, ini.length = m := ⟨_, rfl⟩
  have Hm := Lib.hid hm
  have hmN : m + 1 ≤ N := by omega
  obtain ⟨hN1, hN5⟩ := hN5
  clear hini hi1 hi2 hi3 hC hrr hcall hm hs hp hfit hll hG
  go_enter Tryz.func105, Tryz.ntmps105
  go_wp2_with fail
  refine Hc.out.mono ?_
  rintro e w1 ⟨A, n, c, hd, rfl, hg1, hO⟩
  clear Hc
  obtain rfl : n = m + 1 := by have := hO.xlen; rw [List.length_append, Hm.out] at this; simpa using this.symm
  obtain ⟨b, r, d, rfl, hr, hIr, m0a, m1⟩ := hO.at_ (k := m) (by omega)
  obtain rfl : r = (C, -1) := by
    have := hr.out
    rw [List.getElem?_append_right (by rw [Hm.out]; exact Nat.le_refl _), Hm.out, Nat.sub_self] at this
    simpa using this.symm
  obtain ⟨dA, dc⟩ := d
  have hIr : Ints w1 w.heap.size dA N dc C := by have := hIr; rw [hCl.out] at this; exact this
  have m0 : w1.cell? ⟨b, m * 2, none⟩ = some (.slice dA N dc) := by have := m0a; rw [hCl.out] at this; exact this
  have hnc := (Sl.own hO.row).1
  have hncm := Sl.max (Sl.own hO.row)
  have hw1 : IntKind.i64.wrap ((m : Int) + 1 - 1) = (m : Int) := by rw [IntWalk.i64_in _ (by omega)]; omega
  have hw3 : IntKind.i64.wrap (m : Int) = (m : Int) := IntWalk.i64_in _ (by omega)
  have hm0 : (0 : Int) ≤ (m : Int) := by omega
  have hm1 : (m : Int) < (m : Int) + 1 := by omega
  have hmc : (m : Int) ≤ (c : Int) := by omega
  have HO := Lib.hid hO
  obtain ⟨w2, hmk, hg2, hown2⟩ := mk_bools N (by omega) w1
  clear hr m1 hO m0a
  have hb0 : Hid (w2.ownsRow w1.heap.size 4 1 (.slice (some ⟨w1.heap.size, 0, none⟩) N N) N ((goneOf (List.replicate N false) (ini.take 0)).map Value.bool)) := Lib.hid (by rw [List.take_zero]; exact hown2)
  go_wp2
  clear hmk hown2
  go_loopw [8] (fun i wr => ∃ j : Nat, j ≤ m ∧ i = .int .i64 j ∧ w1.grownBy wr none ∧ wr.ownsRow w1.heap.size 4 1 (.slice (some ⟨w1.heap.size, 0, none⟩) N N) N ((goneOf (List.replicate N false) (ini.take j)).map Value.bool)) (fun i _ => m - (intOf i).toNat)
  case atStart => exact ⟨0, Nat.zero_le _, rfl, hg2, hb0.out⟩
  case round =>
    obtain ⟨j, hj, rfl, hG, hown⟩ := hrel
    rename World => wr
    clear hb0 hg2
    have hw2 : IntKind.i64.wrap ((j : Int) + 1) = (j : Int) + 1 := IntWalk.i64_in _ (by omega)
    by_cases hlt : j < m
    · obtain ⟨b', r, d, he, hr, _, q0, q1⟩ := (HO.out.keep hG).at_ (k := j) (by omega)
      injection he with he
      injection he with he1 he2
      subst he1
      have hr' : ini[j]? = some r := by have := hr.out; rwa [List.getElem?_append_left (by rw [Hm.out]; exact hlt)] at this
      obtain ⟨q, hq, hqN⟩ := Hi1.out r (List.mem_of_getElem? hr')
      obtain ⟨rc, ro⟩ := r
      have hq : ro = (q : Int) := hq
      subst hq
      have hst : Hid (goneOf (List.replicate N false) (ini.take (j + 1)) = (goneOf (List.replicate N false) (ini.take j)).set q true) := Lib.hid (by rw [take_succ_of hr', goneOf_snoc]; rfl)
      have q1 : wr.cell? ⟨b, j * 2 + 1, none⟩ = some (.int .i64 (q : Int)) := q1
      obtain ⟨u, hcu⟩ := own_cell hown hqN
      have hfu := hown.frozenAt q
      obtain ⟨hst2, hgs2⟩ := hown.stored q (.bool true)
      have hst3 : (wr.setCell ⟨w1.heap.size, q, none⟩ (.bool true)).ownsRow w1.heap.size 4 1 (.slice (some ⟨w1.heap.size, 0, none⟩) N N) N ((goneOf (List.replicate N false) (ini.take (j + 1))).map Value.bool) := by rw [hst.out, List.map_set]; exact hst2
      have hG3 := gb_setCell (p := ⟨w1.heap.size, q, none⟩) hG (.inr (Nat.le_refl _)) (.bool true)
      have hj' : (j : Int) + 1 < (m : Int) + 1 := by omega
      have hj2 : (j : Int) < (m : Int) + 1 := by omega
      have hj0 : (0 : Int) ≤ (j : Int) := by omega
      have hq0 : (0 : Int) ≤ (q : Int) := by omega
      have hqn' : (q : Int) < (N : Int) := by omega
      clear hr hr' hst2 hown q0
      go_wp2
      go_roundw
      case rel => exact ⟨j + 1, by omega, by go_num, hG3, hst3⟩
      case measure => simp [intOf]; omega
    · obtain rfl : j = m := by omega
      rw [List.take_of_length_le (by rw [Hm.out]; exact Nat.le_refl _), HG.out] at hown
      have hGw := gb_trans hg1 hG
      have hL : Bls wr w.heap.size (some ⟨w1.heap.size, 0, none⟩) N N G := (Sl.own hown).mono hg1.size
      have m0' := gb_cell hG m0 (by simp)
      have hIw := hIr.keep0 hG
      have hJ : Ints wr lo' B0 N cap' lots := h'.keep0 hGw
      clear m0 hIr hown hG hlt hj
      go_wp2_with fail
      refine wp_flow (by kernel_rfl) (by kernel_rfl) (PC wr) PT (winFacts w.heap.size b j N c cap' B0 dA dc (some ⟨w1.heap.size, 0, none⟩) N (G.map (!·)) (mostB C (G.map (!·))) (runW ps lots)) (gb_drew (gb_refl _ _)) (fun n x y h k => gb_trans k h) (fun n x y h _ i v hv => winFacts_kept h i v hv) ?_ ?_
      · refine ⟨fun n u x hn hC hp => ?_, fun n u x hn hC hp => ?_, fun n u x hn hC hp => ?_, fun n u x hn hC hp => ?_, fun n u x hn hC hp => ?_, fun n u x hn hC hp => ?_, fun n u x hn hC hp => ?_, fun n u x hn hC hp => ?_, fun n u x hn hC hp => ?_, fun n u x hn hC hp => ?_, fun n u x hn hC hp => ?_, fun n u x hn hC hp => ?_, fun n u x hn hC hp => ?_, trivial⟩
        · clear hp; go_simp; exact ⟨gb_refl _ _, rfl⟩
        · clear hp; go_simp; exact ⟨gb_refl _ _, rfl⟩
        · clear hp; go_simp; exact ⟨gb_refl _ _, rfl⟩
        · have e1 : u 2 = .slice (some ⟨b, 0, none⟩) (j + 1) c := hp 2 (by decide)
          clear hp; go_simp; exact ⟨gb_refl _ _, rfl⟩
        · have e1 : u 3 = .int .i64 ((j : Int) + 1) := hp 3 (by decide)
          clear hp; go_simp; exact ⟨gb_refl _ _, rfl⟩
        · have e1 : u 1 = .slice (some ⟨b, 0, none⟩) (j + 1) c := hp 1 (by decide)
          have e2 : u 4 = .int .i64 (j : Int) := hp 4 (by decide)
          clear hp; go_simp; exact ⟨gb_refl _ _, rfl⟩
        · have e1 : u 5 = .pointer (some ⟨b, j * 2, none⟩) := hp 5 (by decide)
          clear hp; go_simp; exact ⟨gb_refl _ _, rfl⟩
        · have e1 : u 6 = .pointer (some ⟨b, j * 2, none⟩) := hp 6 (by decide)
          have m0x := gb_cell hC m0' (by simp)
          clear hp; go_simp; exact ⟨gb_refl _ _, rfl⟩
        · clear hp; go_simp; exact ⟨gb_refl _ _, rfl⟩
        · have e1 : u 8 = .slice (some ⟨w1.heap.size, 0, none⟩) N N := hp 8 (by decide)
          clear hp
          go_simp
          refine (c_l12Stay w.heap.size _ N N G x (Sl.keep0 hL hC) (by omega)).mono ?_
          rintro e y ⟨B, cB, rfl, hg, ho⟩
          exact ⟨_, rfl, hg, B, cB, rfl, (Sl.own ho).mono (Nat.le_trans hGw.size hC.size)⟩
        · have e1 : u 7 = .slice dA N dc := hp 7 (by decide)
          obtain ⟨B, cB, e2, hb⟩ := (show ∃ B c, u 9 = .slice B N c ∧ Bls x w.heap.size B N c (G.map (!·)) from hp 9 (by decide))
          clear hp
          go_simp
          refine (c_l11Most w.heap.size w.heap.size dA B N dc cB C (G.map (!·)) x (hIw.keep0 hC) hb (by omega)).mono ?_
          rintro e y ⟨B', cB', rfl, hg, ho⟩
          exact ⟨_, rfl, hg, B', cB', rfl, (Sl.own ho).mono (Nat.le_trans hGw.size hC.size)⟩
        · have e1 : u 0 = .slice B0 N cap' := hp 0 (by decide)
          obtain ⟨B, cB, e2, hb⟩ := (show ∃ B c, u 10 = .slice B N c ∧ Bls x w.heap.size B N c (mostB C (G.map (!·))) from hp 10 (by decide))
          clear hp
          go_simp
          refine (c_l4First lo' w.heap.size B0 B N cap' N cB lots _ x (hJ.keep0 hC) hb hrange.out).mono ?_
          rintro e y ⟨rfl, rfl⟩
          exact ⟨_, rfl, gb_refl _ _, by rw [hwin.out]; rfl⟩
        · have e1 : u 11 = .int .i64 (runW ps lots) := hp 11 (by decide)
          clear hp; go_simp; exact ⟨gb_refl _ _, rfl⟩
      · intro n u x hn hC hp
        have e1 : u 12 = .int .i64 (runW ps lots) := hp 12 (by decide)
        clear hp
        go_simp
        go_wp2
        go_ret
        exact ⟨rfl, gb_trans hGw hC⟩
end Go.Proofs.YtboobimpoddacaaGreatDoor
