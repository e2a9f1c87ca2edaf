/-
  Drawn contests: l91Pairs, DrawContestWinner, DrawContestAgrees.
-/
import Derived.Test.YtipnalfkpalieaaDoorDrawPiles
import Derived.Test.YtipnalfkpalieaaDoorDrawNode
import Derived.Test.YtipnalfkpalieaaDoorParse
namespace Go.Proofs.YtipnalfkpalieaaDoor
open Go.RowKit
set_option linter.unusedVariables false

theorem results_tmp4 {fn : Func} {a b c d : Tmp} (h : fn.results = #[.tmp a, .tmp b, .tmp c, .tmp d]) (tmps : Array Value) (P : Program) (w : World) :
    (results fn tmps).run P w = .ok (.tuple #[tmps.getD a undef, tmps.getD b undef, tmps.getD c undef, tmps.getD d undef]) w := by
  simp [results, h]

def PairsGot (R m : Nat) (w : World) (e : Ending) (w' : World) : Prop :=
  ∃ (A : Option Addr) (N c : Nat) (ps : List Pl) (n : Int), e = .returned (.tuple #[.slice A N c, .int .i64 n]) ∧ Piles w' w.heap.size A N c ps ∧ SmallPls ps ∧ 0 ≤ n ∧ n ≤ 6 ∧ Rdr w' R (m + 2010) ∧ w.grownBy w' (some R)

set_option maxHeartbeats 1000000 in
theorem c_l91Pairs (R m : Nat) (w : World) (h : Rdr w R m) (hm : m ≤ 700000) :
    Calls Tryd.prog 62 #[.pointer (some ⟨R, 0, none⟩)] w (PairsGot R m w) := by
  have hRl := h.lt
  go_enter Tryd.func62, Tryd.ntmps62
  go_wp2_with fail
  refine (c_pick _ _ _ _ h (by omega) (by omega) (by omega)).mono ?_
  rintro e w1 ⟨k, hk, rfl, hR1, hg1, hz1⟩
  have hw1 : IntKind.i64.wrap (2 + (k : Int)) = 2 + (k : Int) := IntWalk.i64_in _ (by omega)
  go_wp2_with fail
  refine (c_pick _ _ _ _ hR1 (by omega) (by omega) (by omega)).mono ?_
  rintro e w2 ⟨q, hq, rfl, hR2, hg2, hz2⟩
  have hG2 := gb_trans hg1 hg2
  have hs2 := hG2.size
  clear hR1 hg1 hz1 hg2 hz2 hq
  by_cases hq0 : q = 0
  · subst hq0
    go_wp2_with fail
    refine (c_pick _ _ _ _ hR2 (by omega) (by omega) (by omega)).mono ?_
    rintro e w3 ⟨k7, hk7, rfl, hR3, hg3, hz3⟩
    have hG3 := gb_trans hG2 hg3
    have hs3 := hG3.size
    clear hg3 hz3 hR2
    rcases (show k7 = 0 ∨ k7 = 6 ∨ (1 ≤ k7 ∧ k7 ≤ 5) by omega) with rfl | rfl | ⟨h71, h75⟩
    · go_wp2_with fail
      refine (c_l91Piles R _ _ _ hR3 (by omega) (by omega) (by omega)).mono ?_
      rintro e w4 ⟨A, c, ps, rfl, ho4, hsm, hR4, hg4⟩
      have hG4 := gb_trans hG3 hg4
      obtain ⟨N, hN⟩ : ∃ N, ps.length = N := ⟨_, rfl⟩
      rw [hN] at ho4
      rw [hN]
      have hP : Piles w4 w.heap.size A N c ps := (Sl.own ho4).mono hs3
      clear hN ho4
      go_wp2
      go_ret2
      exact ⟨A, N, c, ps, _, rfl, hP, hsm, by omega, by omega, hR4.mono (by omega), hG4⟩
    · go_wp2_with fail
      refine (c_l91Piles R _ _ _ hR3 (by omega) (by omega) (by omega)).mono ?_
      rintro e w4 ⟨A, c, ps, rfl, ho4, hsm, hR4, hg4⟩
      have hG4 := gb_trans hG3 hg4
      obtain ⟨N, hN⟩ : ∃ N, ps.length = N := ⟨_, rfl⟩
      rw [hN] at ho4
      rw [hN]
      have hP : Piles w4 w.heap.size A N c ps := (Sl.own ho4).mono hs3
      clear hN ho4
      go_wp2
      go_ret2
      exact ⟨A, N, c, ps, _, rfl, hP, hsm, by omega, by omega, hR4.mono (by omega), hG4⟩
    · have f1 : ¬ (5 : Int) < (k7 : Int) := by omega
      have f2 : ¬ (k7 : Int) < 1 := by omega
      go_wp2_with fail
      refine (c_l91Piles R _ _ _ hR3 (by omega) (by omega) (by omega)).mono ?_
      rintro e w4 ⟨A, c, ps, rfl, ho4, hsm, hR4, hg4⟩
      have hG4 := gb_trans hG3 hg4
      obtain ⟨N, hN⟩ : ∃ N, ps.length = N := ⟨_, rfl⟩
      rw [hN] at ho4
      rw [hN]
      have hP : Piles w4 w.heap.size A N c ps := (Sl.own ho4).mono hs3
      clear hN ho4
      go_wp2
      go_ret2
      exact ⟨A, N, c, ps, _, rfl, hP, hsm, by omega, by omega, hR4.mono (by omega), hG4⟩
  · have hqb : ((q : Int) == 0) = false := by simp; omega
    have f1 : ¬ (5 : Int) < 2 + (k : Int) := by omega
    have f2 : ¬ 2 + (k : Int) < 1 := by omega
    go_wp2_with fail
    refine (c_l91Piles R _ _ _ hR2 (by omega) (by omega) (by omega)).mono ?_
    rintro e w4 ⟨A, c, ps, rfl, ho4, hsm, hR4, hg4⟩
    have hG4 := gb_trans hG2 hg4
    obtain ⟨N, hN⟩ : ∃ N, ps.length = N := ⟨_, rfl⟩
    rw [hN] at ho4
    rw [hN]
    have hP : Piles w4 w.heap.size A N c ps := (Sl.own ho4).mono hs2
    clear hN ho4
    go_wp2
    go_ret2
    exact ⟨A, N, c, ps, _, rfl, hP, hsm, by omega, by omega, hR4.mono (by omega), hG4⟩

def ConGot (w : World) (e : Ending) (w' : World) : Prop :=
  ∃ (A : Option Addr) (N c : Nat) (ps : List Pl) (n m s : Int), e = .returned (.tuple #[.slice A N c, .int .i64 n, .int .i64 m, .int .i64 s]) ∧ Piles w' w.heap.size A N c ps ∧ SmallPls ps ∧ 0 ≤ n ∧ n ≤ 6 ∧ w.grownBy w' none

set_option maxHeartbeats 4000000 in
set_option maxRecDepth 100000 in
theorem c_DrawContestWinner (A0 : Option Addr) (len cap : Nat) (w : World) (h : CodeArg w A0 len cap) :
    Calls Tryd.prog 32 #[.slice A0 len cap] w (ConGot w) := by
  go_enter Tryd.func32, Tryd.ntmps32
  go_wp2_with fail
  refine (c_l6Open A0 len cap w h).mono ?_
  rintro e w1 ⟨rfl, hR1, hg1, hz1⟩
  go_wp2_with fail
  refine (c_l91Pairs _ _ _ hR1 (by omega)).mono ?_
  rintro e w2 ⟨A, N, c, ps, n, rfl, hP2, hsm, hn0, hn6, hR2, hg2⟩
  have hG2 : w.grownBy w2 none := gb_step hg1 hg2 (fun g e => by injection e with e; right; omega)
  rw [hz1] at hP2
  have HP : Hid (∀ y : World, w2.grownBy y (some w.heap.size) → Piles y w.heap.size A N c ps) := Lib.hid (fun y hy => Sl.mono (Sl.keep hP2 hy (fun k e => by injection e with e; omega)) (by omega))
  clear hg1 hg2 hR1 hP2
  go_wp2_with fail
  refine (c_pick _ _ _ _ hR2 (by omega) (by omega) (by omega)).mono ?_
  rintro e w3 ⟨k3, hk3, rfl, hR3, hg3, hz3⟩
  have hG3 : w.grownBy w3 none := gb_step hG2 hg3 (fun g e => by injection e with e; right; omega)
  have hw3 : IntKind.i64.wrap (1 + (k3 : Int)) = 1 + (k3 : Int) := IntWalk.i64_in _ (by omega)
  go_wp2_with fail
  refine (c_pick _ _ _ _ hR3 (by omega) (by omega) (by omega)).mono ?_
  rintro e w4 ⟨k4, hk4, rfl, hR4, hg4, hz4⟩
  have hG4 : w.grownBy w4 none := gb_step hG3 hg4 (fun g e => by injection e with e; right; omega)
  have hw4 : IntKind.i64.wrap ((k4 : Int) * 4) = (k4 : Int) * 4 := IntWalk.i64_in _ (by omega)
  go_wp2_with fail
  refine (c_pick _ _ _ _ hR4 (by omega) (by omega) (by omega)).mono ?_
  rintro e w5 ⟨q, hq, rfl, hR5, hg5, hz5⟩
  have hG5 : w.grownBy w5 none := gb_step hG4 hg5 (fun g e => by injection e with e; right; omega)
  have hg25 : w2.grownBy w5 (some w.heap.size) := gb_trans hg3 (gb_trans hg4 hg5)
  clear hg3 hg4 hg5 hz3 hz4 hz5 hR2 hR3 hR4
  by_cases hq0 : q = 0
  · subst hq0
    go_wp2_with fail
    refine (c_pick _ _ _ _ hR5 (by omega) (by omega) (by omega)).mono ?_
    rintro e w6 ⟨k6, hk6, rfl, hR6, hg6, hz6⟩
    have hG6 : w.grownBy w6 none := gb_step hG5 hg6 (fun g e => by injection e with e; right; omega)
    have hP6 : Piles w6 w.heap.size A N c ps := HP.out w6 (gb_trans hg25 hg6)
    have hw6 : IntKind.i64.wrap ((k6 : Int) * 4) = (k6 : Int) * 4 := IntWalk.i64_in _ (by omega)
    go_wp2
    try simp only [Exit.inBlock, Exit.then]
    refine bodyPost_ret (results_tmp4 rfl _ _ _) rfl ?_
    exact ⟨A, N, c, ps, n, _, _, rfl, hP6, hsm, hn0, hn6, hG6⟩
  by_cases hq1 : q = 1
  · subst hq1
    go_wp2_with fail
    refine (c_pick _ _ _ _ (hR5.alloc _) (by omega) (by omega) (by omega)).mono ?_
    rintro e w6 ⟨k6, hk6, rfl, hR6, hg6, hz6⟩
    have hRw := hR5.lt
    have hga := gb_alloc (gb_refl w5 none) (.cells #[.int .i64 (-1), .int .i64 1000] 3)
    have hB6 := (Blk.new w5 3 #[.int .i64 (-1), .int .i64 1000]).grown hg6 (fun e => by injection e with e; omega)
    have b0 := hB6.cell 0
    have b1 := hB6.cell 1
    have hg56 := gb_trans (gb_mono hga (some w.heap.size)) hg6
    have hG6 : w.grownBy w6 none := gb_step hG5 hg56 (fun g e => by injection e with e; right; omega)
    have hP6 : Piles w6 w.heap.size A N c ps := HP.out w6 (gb_trans hg25 hg56)
    clear hga hB6 hg56 hg6 hz6 hR6 hR5 hG5 hg25
    rcases (show k6 = 0 ∨ k6 = 1 by omega) with rfl | rfl
    · go_wp2
      try simp only [Exit.inBlock, Exit.then]
      refine bodyPost_ret (results_tmp4 rfl _ _ _) rfl ?_
      exact ⟨A, N, c, ps, n, _, _, rfl, hP6, hsm, hn0, hn6, hG6⟩
    · go_wp2
      try simp only [Exit.inBlock, Exit.then]
      refine bodyPost_ret (results_tmp4 rfl _ _ _) rfl ?_
      exact ⟨A, N, c, ps, n, _, _, rfl, hP6, hsm, hn0, hn6, hG6⟩
  · have hqb0 : ((q : Int) == 0) = false := by simp; omega
    have hqb1 : ((q : Int) == 1) = false := by simp; omega
    have hP5 : Piles w5 w.heap.size A N c ps := HP.out w5 hg25
    go_wp2
    try simp only [Exit.inBlock, Exit.then]
    refine bodyPost_ret (results_tmp4 rfl _ _ _) rfl ?_
    exact ⟨A, N, c, ps, n, _, _, rfl, hP5, hsm, hn0, hn6, hG5⟩

end Go.Proofs.YtipnalfkpalieaaDoor
