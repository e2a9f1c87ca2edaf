/-
  The draws of a leaf: spec.DrawLeafSum.
-/
import Derived.Test.YtocdgmmmegcnoaaDrawBallot
import Derived.Test.YtocdgmmmegcnoaaDrawNode
namespace Go.Proofs.Ytocdgmmmegcnoaa
open Go.RowKit
set_option linter.unusedVariables false

attribute [local go_sem] flowAct flowOp_def flowUpon

def isInt (u : Value) : Prop := ∃ n : Int, u = .int .i64 n
def shortStr (u : Value) : Prop := ∃ s : ByteArray, s.size ≤ 100 ∧ u = .string s
def leafFacts (R : Nat) : Nat → Value → World → Prop
  | 0 => fRow R 3 2 #[.int .i64 (-1), .int .i64 8]
  | 1 | 5 => fIs (.pointer (some ⟨R, 0, none⟩))
  | 2 => fPick 2
  | 3 => fPlace R isInt
  | 4 | 8 => fVal isInt
  | 6 => fRow R 9 2 #[.string ⟨#[97]⟩, .string ⟨#[97, 97]⟩]
  | 7 | 9 => fVal shortStr
  | _ => fun _ _ => True
theorem leafFacts_kept (R : Nat) (n m K : Nat) (x y : World) (h : RT R m K n x y) : ∀ i v, leafFacts R i v x → leafFacts R i v y := by
  intro i v hv
  unfold leafFacts at *
  split at hv
  all_goals first
    | exact hv
    | exact fRow_kept h.1 hv
    | exact fPlace_kept h.1 hv
theorem leafInts : ∀ u ∈ (#[.int .i64 (-1), .int .i64 8] : Array Value).toList, isInt u := by
  intro u hu
  simp at hu
  rcases hu with rfl | rfl
  · exact ⟨-1, rfl⟩
  · exact ⟨8, rfl⟩
/-- A row of strings in a block that is known. -/
theorem Strs.ofBlk {x : World} {g t n : Nat} {ss : List ByteArray} (hb : Blk x g t (ss.map Value.string).toArray) (hn : ss.length = n) (hm : n ≤ 1000) : Strs x g (some ⟨g, 0, none⟩) n n ss := by
  refine ⟨Nat.le_refl _, by unfold maxLen; omega, by simpa using hn, fun _ => ⟨g, 0, rfl, Nat.le_refl _, hb.lt, fun j u hu => ?_⟩⟩
  rw [Nat.zero_add, hb.cell j]
  simpa using hu

set_option maxHeartbeats 2000000 in
theorem c_DrawLeafSum (A : Option Addr) (len cap : Nat) (w : World) (h : CodeArg w A len cap) :
    Calls Try.prog 21 #[.slice A len cap] w fun e w' => ∃ (a : Int) (s : ByteArray), s.size ≤ 100 ∧ e = .returned (.tuple #[.int .i64 a, .string s]) ∧ w.grownBy w' none := by
  go_enter Try.func21, Try.ntmps21
  go_wp2_with fail
  refine (c_l6Open _ _ _ _ h).mono ?_
  rintro e w1 ⟨rfl, hR1, hg1, hz1⟩
  generalize hR : w.heap.size = R at *
  have HS := Lib.hid hR
  clear hR hz1
  go_wp2_with fail
  refine (c_pick _ _ _ _ hR1 (by omega) (by omega) (by omega)).mono ?_
  rintro e w2 ⟨k2, hk2, rfl, hR2, hg2, hz2⟩
  have hG2 : w.grownBy w2 none := gb_step hg1 hg2 (fun g e => by injection e with e; subst e; exact .inr (Nat.le_of_eq HS.out))
  go_wp2_with fail
  refine (c_pick _ _ _ _ hR2 (by omega) (by omega) (by omega)).mono ?_
  rintro e w3 ⟨k3, hk3, rfl, hR3, hg3, hz3⟩
  have hG3 : w.grownBy w3 none := gb_step hG2 hg3 (fun g e => by injection e with e; subst e; exact .inr (Nat.le_of_eq HS.out))
  clear hz2 hz3
  by_cases h0 : k3 = 0
  · subst h0
    go_wp2_with fail
    have pick : ∀ (n : Nat) (x : World) (q : Int), 1 ≤ q → q ≤ 2 → n < 10 → RC w none R 2 1 n x →
        Calls Try.prog 42 #[.pointer (some ⟨R, 0, none⟩), .int .i64 q] x (fun e y => ∃ v, e = .returned v ∧ RT R 2 1 n x y ∧ fPick 2 v y) := by
      intro n x q h1 h2 hn hC
      refine (c_pick _ _ _ _ hC.rdr (by omega) (by omega) (by omega)).mono ?_
      rintro e y ⟨k, hk, rfl, hR', hg', hz'⟩
      exact ⟨_, rfl, ⟨hg', hR'.mono (by omega)⟩, k, by omega, rfl⟩
    refine wp_flow (by kernel_rfl) (by kernel_rfl) (RC w none R 2 1) (RT R 2 1) (leafFacts R) (RC.start hG3 hR3 _) (fun n x y => RC.next (.inr (Nat.le_of_eq HS.out))) (fun n x y hT _ => leafFacts_kept R n 2 1 x y hT) ?_ ?_
    · refine ⟨fun n u x hn hC hp => ?_, fun n u x hn hC hp => ?_, fun n u x hn hC hp => ?_, fun n u x hn hC hp => ?_, fun n u x hn hC hp => ?_, fun n u x hn hC hp => ?_, fun n u x hn hC hp => ?_, fun n u x hn hC hp => ?_, fun n u x hn hC hp => ?_, fun n u x hn hC hp => ?_, trivial⟩
      · go_simp
        exact ⟨hC.alloc _, _, rfl, hC.rdr.lt, Blk.new _ _ _⟩
      · go_simp
        exact ⟨hC.same, rfl⟩
      · have e1 : u 1 = .pointer (some ⟨R, 0, none⟩) := (show fIs _ (u 1) x from hp 1 (by decide))
        go_simp
        exact pick n x _ (by decide) (by decide) (Nat.lt_of_lt_of_le hn (by decide)) hC
      · obtain ⟨g, e0, hg, hb⟩ := (show fRow R _ _ _ (u 0) x from hp 0 (by decide))
        obtain ⟨k, hk, e2⟩ := (show fPick 2 (u 2) x from hp 2 (by decide))
        have hk' : (k : Int) < 2 := by omega
        go_simp
        obtain ⟨v, hv, hpv⟩ := rowCell (p := isInt) hb leafInts (k := k) hk
        exact ⟨hC.same, g, k, rfl, hg, v, hv, hpv⟩
      · obtain ⟨g, k, e3, hg, v, hv, z, rfl⟩ := (show fPlace R isInt (u 3) x from hp 3 (by decide))
        go_simp
        exact ⟨hC.same, z, rfl⟩
      · go_simp
        exact ⟨hC.same, rfl⟩
      · go_simp
        exact ⟨hC.alloc _, _, rfl, hC.rdr.lt, Blk.new _ _ _⟩
      · have e5 : u 5 = .pointer (some ⟨R, 0, none⟩) := (show fIs _ (u 5) x from hp 5 (by decide))
        obtain ⟨g, e6, hg, hb⟩ := (show fRow R _ _ _ (u 6) x from hp 6 (by decide))
        have hS : Strs x g (some ⟨g, 0, none⟩) 2 2 [⟨#[97]⟩, ⟨#[97, 97]⟩] := Strs.ofBlk hb rfl (by omega)
        have hn' : n < 10 := Nat.lt_of_lt_of_le hn (by decide)
        go_simp
        refine (c_of R _ g _ 2 2 _ x hC.rdr (by omega) hS hg (by omega) (by omega)).mono ?_
        rintro e y ⟨s, hs, rfl, hR', hg', hz'⟩
        exact ⟨_, rfl, ⟨hg', hR'.mono (by omega)⟩, s, by simp at hs; rcases hs with rfl | rfl <;> decide, rfl⟩
      · obtain ⟨z, e4⟩ := (show fVal isInt (u 4) x from hp 4 (by decide))
        go_simp
        exact ⟨hC.same, z, rfl⟩
      · obtain ⟨s, hs, e7⟩ := (show fVal shortStr (u 7) x from hp 7 (by decide))
        go_simp
        exact ⟨hC.same, s, hs, rfl⟩
    · intro n u x hn hC hp
      obtain ⟨z, e8⟩ := (show fVal isInt (u 8) x from hp 8 (by decide))
      obtain ⟨s, hs, e9⟩ := (show fVal shortStr (u 9) x from hp 9 (by decide))
      go_simp
      go_wp2
      go_ret2
      exact ⟨z, s, hs, rfl, hC.1⟩
  · have h0' : ((k3 : Int) == 0) = false := by simp; omega
    go_wp2_with fail
    refine (c_pick _ _ _ _ hR3 (by omega) (by omega) (by omega)).mono ?_
    rintro e w4 ⟨k4, hk4, rfl, hR4, hg4, hz4⟩
    have hG4 : w.grownBy w4 none := gb_step hG3 hg4 (fun g e => by injection e with e; subst e; exact .inr (Nat.le_of_eq HS.out))
    clear hz4
    by_cases h4 : k4 = 0
    · subst h4
      go_wp2
      go_ret2
      exact ⟨_, _, by decide, rfl, hG4⟩
    · have h4' : ((k4 : Int) == 0) = false := by simp; omega
      go_wp2_with fail
      refine (c_l91Ballot R _ _ _ hR4 (by omega) (by omega) (by omega)).mono ?_
      rintro e w5 ⟨A5, c5, xs, rfl, hown, hall, hlen, hR5, hg5, _⟩
      have hG5 : w.grownBy w5 none := gb_step hG4 hg5 (fun g e => by injection e with e; subst e; exact .inr (Nat.le_of_eq HS.out))
      go_wp2_with fail
      refine (c_spec_BallotText _ _ _ _ _ _ (Sl.own hown) (by omega)).mono ?_
      rintro e w6 ⟨rfl, d, rfl⟩
      go_wp2
      go_ret2
      exact ⟨_, _, ballotText_size xs hlen, rfl, gb_drewN hG5 d⟩
end Go.Proofs.Ytocdgmmmegcnoaa
