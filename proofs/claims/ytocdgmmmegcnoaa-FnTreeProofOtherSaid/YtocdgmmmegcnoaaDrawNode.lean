/-
  The draws of sums: spec.l6Open, spec.DrawNodeSum.
-/
import Derived.Test.YtocdgmmmegcnoaaRdr
import Derived.Test.YtocdgmmmegcnoaaArgs
import Derived.Test.YtocdgmmmegcnoaaFacts
import Derived.Deep.RegionHeld3
import Derived.Deep.DrawnRows
namespace Go.Proofs.Ytocdgmmmegcnoaa
open Go.RowKit
set_option linter.unusedVariables false

theorem c_l6Open (A : Option Addr) (len cap : Nat) (w : World) (h : CodeArg w A len cap) :
    Calls Try.prog 41 #[.slice A len cap] w fun e w' =>
      e = .returned (.pointer (some ⟨w.heap.size, 0, none⟩)) ∧ Rdr w' w.heap.size 0 ∧ w.grownBy w' none ∧ w'.heap.size = w.heap.size + 1 := by
  obtain ⟨hl, hm, hc⟩ := h
  unfold maxLen at hm
  have key : ∀ (n c : Nat), n ≤ len → n ≤ 2000 → Rdr (w.alloc (.cells #[.slice A n c, .int .i64 0] 66)) w.heap.size 0 := by
    intro n c hn h2
    refine ⟨A, n, c, 0, Blk.new _ _ _, Nat.le_refl _, h2, fun h0 => ?_⟩
    obtain ⟨b, off, e, hb, hcell⟩ := hc (by omega)
    refine ⟨b, off, e, hb, fun j hj => ?_⟩
    obtain ⟨u, hu, hcu⟩ := hcell j (by omega)
    exact ⟨u, hu, (World.cell?_alloc_lt _ _ _ hb).trans hcu⟩
  by_cases h2 : len ≤ 2000
  · have h2' : ¬ (2000 < len) := by omega
    go_enter Try.func41, Try.ntmps41
    go_wp2
    go_ret
    exact ⟨rfl, key _ _ (Nat.le_refl _) h2, gb_alloc (gb_refl _ _) _, by simp⟩
  · have h2' : 2000 < len := by omega
    go_enter Try.func41, Try.ntmps41
    go_wp2
    go_ret
    exact ⟨rfl, key _ _ (by omega) (Nat.le_refl _), gb_alloc (gb_refl _ _) _, by simp⟩


attribute [local go_sem] flowAct flowOp_def flowUpon

def nodeRow : Array Value := #[.int .i64 (-1), .int .i64 0, .int .i64 9972, .int .i64 9973]
def nodeFacts (R : Nat) : Nat → Value → World → Prop
  | 0 | 5 => fRow R 3 4 nodeRow
  | 1 | 6 => fIs (.pointer (some ⟨R, 0, none⟩))
  | 2 | 7 => fPick 4
  | 3 | 8 => fPlace R (fun u => ∃ n : Int, u = .int .i64 n)
  | 4 | 9 | 10 | 11 => fInt
  | _ => fun _ _ => True

theorem nodeFacts_kept (R : Nat) (n m K : Nat) (x y : World) (h : RT R m K n x y) : ∀ i v, nodeFacts R i v x → nodeFacts R i v y := by
  intro i v hv
  unfold nodeFacts at *
  split at hv
  all_goals first
    | exact hv
    | exact fRow_kept h.1 hv
    | exact fPlace_kept h.1 hv

theorem nodeCell {x : World} {g k : Nat} (hb : Blk x g 3 nodeRow) (hk : k < 4) : ∃ n : Int, x.cell? ⟨g, k, none⟩ = some (.int .i64 n) := by
  have hc := hb.cell k
  match k, hk with
  | 0, _ => exact ⟨_, hc⟩
  | 1, _ => exact ⟨_, hc⟩
  | 2, _ => exact ⟨_, hc⟩
  | 3, _ => exact ⟨_, hc⟩

set_option maxHeartbeats 400000 in
theorem c_DrawNodeSum (A : Option Addr) (len cap : Nat) (w : World) (h : CodeArg w A len cap) :
    Calls Try.prog 18 #[.slice A len cap] w fun e w' => ∃ a b : Int, e = .returned (.tuple #[.int .i64 a, .int .i64 b]) ∧ w.grownBy w' none := by
  go_enter Try.func18, Try.ntmps18
  go_wp2_with fail
  refine (c_l6Open _ _ _ _ h).mono ?_
  rintro e w1 ⟨rfl, hR1, hg1, hz1⟩
  go_wp2_with fail
  refine (c_pick _ _ _ _ hR1 (by omega) (by omega) (by omega)).mono ?_
  rintro e w2 ⟨k, hk, rfl, hR2, hg2, hz2⟩
  have hG2 : w.grownBy w2 none := gb_step hg1 hg2 (fun g e => by injection e with e; right; omega)
  generalize hR : w.heap.size = R at *
  have HS := Lib.hid hR
  clear hR
  go_wp2_with fail
  · refine wp_flow (by kernel_rfl) (by kernel_rfl) (RC w none R 1 1) (RT R 1 1) (nodeFacts R) (RC.start hG2 hR2 _) (fun n x y => RC.next ?_) (fun n x y hT _ => nodeFacts_kept R n 1 1 x y hT) ?_ ?_
    · exact .inr (Nat.le_of_eq HS.out)
    · have pick : ∀ (n : Nat) (x : World) (i : Nat) (q : Int), 1 ≤ q → q ≤ 4 → n < 12 → RC w none R 1 1 n x → (∀ k : Nat, k < 4 → nodeFacts R i (.int .i64 (k : Int)) = nodeFacts R 2 (.int .i64 (k : Int))) →
          Calls Try.prog 42 #[.pointer (some ⟨R, 0, none⟩), .int .i64 q] x (fun e y => ∃ v, e = .returned v ∧ RT R 1 1 n x y ∧ nodeFacts R i v y) := by
        intro n x i q h1 h2 hn hC hi
        refine (c_pick _ _ _ _ hC.rdr (by omega) (by omega) (by omega)).mono ?_
        rintro e y ⟨k, hk, rfl, hR', hg', hz'⟩
        exact ⟨_, rfl, ⟨hg', hR'.mono (by omega)⟩, by rw [hi k (by omega)]; exact ⟨k, by omega, rfl⟩⟩
      refine ⟨fun n u x hn hC hp => ?_, fun n u x hn hC hp => ?_, fun n u x hn hC hp => ?_, fun n u x hn hC hp => ?_, fun n u x hn hC hp => ?_, fun n u x hn hC hp => ?_, fun n u x hn hC hp => ?_, fun n u x hn hC hp => ?_, fun n u x hn hC hp => ?_, fun n u x hn hC hp => ?_, fun n u x hn hC hp => ?_, fun n u x hn hC hp => ?_, trivial⟩
      · go_simp
        exact ⟨hC.alloc _, _, rfl, hC.rdr.lt, Blk.new _ _ _⟩
      · go_simp
        exact ⟨hC.same, rfl⟩
      · have e1 : u 1 = .pointer (some ⟨R, 0, none⟩) := hp 1 (by decide)
        go_simp
        exact pick n x 2 _ (by decide) (by decide) (Nat.lt_of_lt_of_le hn (by decide)) hC (fun _ _ => rfl)
      · obtain ⟨g, e0, hg, hb⟩ := (show fRow R _ _ _ (u 0) x from hp 0 (by decide))
        obtain ⟨k, hk, e2⟩ := (show fPick 4 (u 2) x from hp 2 (by decide))
        have hk' : (k : Int) < 4 := by omega
        go_simp
        obtain ⟨z, hz⟩ := nodeCell hb hk
        exact ⟨hC.same, g, k, rfl, hg, _, hz, z, rfl⟩
      · obtain ⟨g, k, e3, hg, v, hz, z, rfl⟩ := (show fPlace R _ (u 3) x from hp 3 (by decide))
        go_simp
        exact ⟨hC.same, z, rfl⟩
      · go_simp
        exact ⟨hC.alloc _, _, rfl, hC.rdr.lt, Blk.new _ _ _⟩
      · go_simp
        exact ⟨hC.same, rfl⟩
      · have e1 : u 6 = .pointer (some ⟨R, 0, none⟩) := hp 6 (by decide)
        go_simp
        exact pick n x 7 _ (by decide) (by decide) (Nat.lt_of_lt_of_le hn (by decide)) hC (fun _ _ => rfl)
      · obtain ⟨g, e0, hg, hb⟩ := (show fRow R _ _ _ (u 5) x from hp 5 (by decide))
        obtain ⟨k, hk, e2⟩ := (show fPick 4 (u 7) x from hp 7 (by decide))
        have hk' : (k : Int) < 4 := by omega
        go_simp
        obtain ⟨z, hz⟩ := nodeCell hb hk
        exact ⟨hC.same, g, k, rfl, hg, _, hz, z, rfl⟩
      · obtain ⟨g, k, e3, hg, v, hz, z, rfl⟩ := (show fPlace R _ (u 8) x from hp 8 (by decide))
        go_simp
        exact ⟨hC.same, z, rfl⟩
      · obtain ⟨z, e4⟩ := (show fInt (u 4) x from hp 4 (by decide))
        go_simp
        exact ⟨hC.same, z, rfl⟩
      · obtain ⟨z, e4⟩ := (show fInt (u 9) x from hp 9 (by decide))
        go_simp
        exact ⟨hC.same, z, rfl⟩
    · intro n u x hn hC hp
      obtain ⟨z1, e1⟩ := (show fInt (u 10) x from hp 10 (by decide))
      obtain ⟨z2, e2⟩ := (show fInt (u 11) x from hp 11 (by decide))
      go_simp
      go_wp2
      go_ret2
      exact ⟨z1, z2, rfl, hC.1⟩
  · refine (c_pick _ _ _ _ hR2 (by omega) (by omega) (by omega)).mono ?_
    rintro e w3 ⟨k3, hk3, rfl, hR3, hg3, hz3⟩
    go_wp2_with fail
    refine (c_pick _ _ _ _ hR3 (by omega) (by omega) (by omega)).mono ?_
    rintro e w4 ⟨k4, hk4, rfl, hR4, hg4, hz4⟩
    go_wp2
    go_ret2
    exact ⟨_, _, rfl, gb_step (gb_step hG2 hg3 (fun g e => by injection e with e; subst e; exact .inr (Nat.le_of_eq HS.out))) hg4 (fun g e => by injection e with e; subst e; exact .inr (Nat.le_of_eq HS.out))⟩
end Go.Proofs.Ytocdgmmmegcnoaa
