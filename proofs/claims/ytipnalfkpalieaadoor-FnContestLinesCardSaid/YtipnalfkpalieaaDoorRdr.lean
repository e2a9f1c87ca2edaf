/-
  The reader of a code (spec.l6Rd): opened over any bytes, asked for numbers. What a pick gives is only told to lie in its range.
-/
import Derived.Test.YtipnalfkpalieaaDoorBase
import Derived.Deep.QuietTactic
import Derived.BigQuiet
import Derived.Test.YtipnalfkpalieaaDoorFlow
namespace Go.Proofs.YtipnalfkpalieaaDoor
open Go.RowKit
set_option linter.unusedVariables false

/-- Block R is a reader that has been asked at most m times. -/
def Rdr (w : World) (R m : Nat) : Prop :=
  ∃ (A : Option Addr) (len cap p : Nat), Blk w R 100 #[.slice A len cap, .int .i64 (p : Int)] ∧ p ≤ m ∧ len ≤ 2000 ∧
    (0 < len → ∃ b off, A = some ⟨b, off, none⟩ ∧ b < R ∧ ∀ j, j < len → ∃ u : Nat, u ≤ 255 ∧ w.cell? ⟨b, off + j, none⟩ = some (.int .u8 (u : Int)))

theorem Rdr.lt {w : World} {R m : Nat} (h : Rdr w R m) : R < w.heap.size := by
  obtain ⟨_, _, _, _, hb, _⟩ := h
  exact hb.lt
theorem Rdr.mono {w : World} {R m m' : Nat} (h : Rdr w R m) (hm : m ≤ m') : Rdr w R m' := by
  obtain ⟨A, len, cap, p, hb, hp, hl, hc⟩ := h
  exact ⟨A, len, cap, p, hb, by omega, hl, hc⟩
theorem Rdr.grown {w w' : World} {R m : Nat} {row : Option Nat} (h : Rdr w R m) (hg : w.grownBy w' row) (hr : ∀ k, row = some k → R < k) : Rdr w' R m := by
  obtain ⟨A, len, cap, p, hb, hp, hl, hc⟩ := h
  refine ⟨A, len, cap, p, hb.grown hg (fun e => by have := hr R e.symm; omega), hp, hl, fun h0 => ?_⟩
  obtain ⟨b, off, e, hlt, hcell⟩ := hc h0
  refine ⟨b, off, e, hlt, fun j hj => ?_⟩
  obtain ⟨u, hu, hcu⟩ := hcell j hj
  exact ⟨u, hu, gb_cell hg hcu (fun e => by have := hr b e.symm; omega)⟩

set_option maxHeartbeats 1000000 in
set_option maxRecDepth 100000 in
theorem c_pick (R m : Nat) (n : Int) (w : World) (h : Rdr w R m) (hm : m ≤ 1000000) (hn : 1 ≤ n) (hn' : n ≤ 1000000) :
    Calls Tryd.prog 63 #[.pointer (some ⟨R, 0, none⟩), .int .i64 n] w fun e w' =>
      ∃ k : Nat, (k : Int) < n ∧ e = .returned (.int .i64 (k : Int)) ∧ Rdr w' R (m + 1) ∧ w.grownBy w' (some R) ∧ w'.heap.size = w.heap.size := by
  obtain ⟨A, len, cap, p, hb, hp, hl, hc⟩ := h
  have h0 : w.cell? ⟨R, 0, none⟩ = some (.slice A len cap) := hb.cell 0
  have h1 : w.cell? ⟨R, 1, none⟩ = some (.int .i64 (p : Int)) := hb.cell 1
  have hf : w.frozen? ⟨R, 1, none⟩ = false := hb.frozen 1
  have hr : Blk (w.setCell ⟨R, 1, none⟩ (.int .i64 ((p : Int) + 1))) R 100 #[.slice A len cap, .int .i64 ((p : Int) + 1)] := hb.set_ 1 _
  have hR : Rdr (w.setCell ⟨R, 1, none⟩ (.int .i64 ((p : Int) + 1))) R (m + 1) := by
    refine ⟨A, len, cap, p + 1, hr, by omega, hl, fun h => ?_⟩
    obtain ⟨b, off, e, hlt, hcell⟩ := hc h
    refine ⟨b, off, e, hlt, fun j hj => ?_⟩
    obtain ⟨u, hu, hcu⟩ := hcell j hj
    exact ⟨u, hu, by rw [World.cell?_setCell_other _ _ _ _ (fun e => by have := congrArg Addr.block e; simp at this; omega)]; exact hcu⟩
  have hg : w.grownBy (w.setCell ⟨R, 1, none⟩ (.int .i64 ((p : Int) + 1))) (some R) := gb_setCell (gb_refl _ _) (.inl rfl) _
  have hn1 : ¬ n < 1 := by omega
  by_cases hlen : len = 0
  · subst hlen
    clear hc
    go_enter Tryd.func63, Tryd.ntmps63
    go_wp2
    go_ret
    exact ⟨0, by omega, rfl, hR, hg, by simp⟩
  · obtain ⟨b, off, rfl, hlt, hcell⟩ := hc (by omega)
    clear hc
    have hne : ((len : Int) == 0) = false := by simp; omega
    by_cases hpl : p < len
    · obtain ⟨u, hu, hcu⟩ := hcell p hpl
      clear hcell
      go_enter Tryd.func63, Tryd.ntmps63
      go_wp2
      go_ret
      exact ⟨((u : Int) % n).toNat, by have := Int.emod_lt_of_pos (u : Int) (show 0 < n by omega); have := Int.emod_nonneg (u : Int) (show n ≠ 0 by omega); omega, ret_int (by have := Int.emod_nonneg (u : Int) (show n ≠ 0 by omega); omega), hR, hg, by simp⟩
    · obtain ⟨q1, t1, hq1⟩ : ∃ q : Nat, (p : Int).tmod (len : Int) = (q : Int) ∧ q < len := ⟨p % len, by rw [Int.tmod_eq_emod_of_nonneg (by omega)]; rfl, Nat.mod_lt _ (by omega)⟩
      obtain ⟨q2, t2, hq2⟩ : ∃ q : Nat, ((p : Int) * 7 + 3).tmod (len : Int) = (q : Int) ∧ q < len := ⟨(p * 7 + 3) % len, by rw [Int.tmod_eq_emod_of_nonneg (by omega)]; rfl, Nat.mod_lt _ (by omega)⟩
      obtain ⟨q3, t3, hq3⟩ : ∃ q : Nat, (p : Int).tdiv (len : Int) = (q : Int) ∧ q ≤ p := ⟨p / len, by rw [Int.tdiv_eq_ediv_of_nonneg (by omega)]; rfl, Nat.div_le_self _ _⟩
      obtain ⟨u1, hu1, hcu1⟩ := hcell q1 hq1
      obtain ⟨u2, hu2, hcu2⟩ := hcell q2 hq2
      have w1 : IntKind.i64.wrap ((p : Int) * 7) = (p : Int) * 7 := IntWalk.i64_in _ (by omega)
      have w2 : IntKind.i64.wrap ((p : Int) * 7 + 3) = (p : Int) * 7 + 3 := IntWalk.i64_in _ (by omega)
      have w3 : IntKind.i64.wrap ((u1 : Int) * 131) = (u1 : Int) * 131 := IntWalk.i64_in _ (by omega)
      have w4 : IntKind.i64.wrap ((u2 : Int) * 1117) = (u2 : Int) * 1117 := IntWalk.i64_in _ (by omega)
      have w5 : IntKind.i64.wrap ((u1 : Int) * 131 + (u2 : Int) * 1117) = (u1 : Int) * 131 + (u2 : Int) * 1117 := IntWalk.i64_in _ (by omega)
      have w6 : IntKind.i64.wrap ((p : Int) * 29) = (p : Int) * 29 := IntWalk.i64_in _ (by omega)
      have w7 : IntKind.i64.wrap ((u1 : Int) * 131 + (u2 : Int) * 1117 + (p : Int) * 29) = (u1 : Int) * 131 + (u2 : Int) * 1117 + (p : Int) * 29 := IntWalk.i64_in _ (by omega)
      have w8 : IntKind.i64.wrap (q3 : Int) = (q3 : Int) := IntWalk.i64_in _ (by omega)
      have w9 : IntKind.i64.wrap ((q3 : Int) * 53) = (q3 : Int) * 53 := IntWalk.i64_in _ (by omega)
      have w10 : IntKind.i64.wrap ((u1 : Int) * 131 + (u2 : Int) * 1117 + (p : Int) * 29 + (q3 : Int) * 53) = (u1 : Int) * 131 + (u2 : Int) * 1117 + (p : Int) * 29 + (q3 : Int) * 53 := IntWalk.i64_in _ (by omega)
      have w11 : IntKind.i64.wrap ((u1 : Int) * 1117) = (u1 : Int) * 1117 := IntWalk.i64_in _ (by omega)
      clear hcell
      go_enter Tryd.func63, Tryd.ntmps63
      go_wp2
      go_quiet (fail)
      clear w1 w2 w3 w4 w5 w6 w7 w8 w9 w10 w11 t1 t2 t3
      have hX0 : 0 ≤ (u1 : Int) * 131 + (u2 : Int) * 1117 + (p : Int) * 29 + (q3 : Int) * 53 := by omega
      have hX1 : (u1 : Int) * 131 + (u2 : Int) * 1117 + (p : Int) * 29 + (q3 : Int) * 53 ≤ 1000000000 := by omega
      generalize (u1 : Int) * 131 + (u2 : Int) * 1117 + (p : Int) * 29 + (q3 : Int) * 53 = X at *
      obtain ⟨hY0, hY1⟩ := xor_nonneg X (X / 64) hX0 (by omega) (by omega) (by omega)
      go_wp2
      go_ret
      generalize bits .xor .i64 X (X / 64) = Y at *
      exact ⟨(Y % n).toNat, by have := Int.emod_lt_of_pos Y (show 0 < n by omega); have := Int.emod_nonneg Y (show n ≠ 0 by omega); omega, ret_int (by have := Int.emod_nonneg Y (show n ≠ 0 by omega); omega), hR, gb_drewN hg _, by simp⟩

theorem Rdr.alloc {w : World} {R m : Nat} (h : Rdr w R m) (o : Obj) : Rdr (w.alloc o) R m := h.grown (row := none) (gb_alloc (gb_refl _ _) _) (by simp)
theorem Rdr.drewN {w : World} {R m : Nat} (h : Rdr w R m) (n : Nat) : Rdr (w.drewN n) R m := h
theorem Rdr.drew {w : World} {R m : Nat} (h : Rdr w R m) : Rdr w.drew R m := h

/-! ### regions that draw their order, beside a reader -/
/-- The class of worlds: what was there when the call began is kept (but for 'row'), and the reader has been asked at most m + K n times. -/
def RC (w : World) (row : Option Nat) (R m K n : Nat) (x : World) : Prop := w.grownBy x row ∧ w.heap.size ≤ x.heap.size ∧ Rdr x R (m + K * n)
/-- One operation. -/
def RT (R m K n : Nat) (x y : World) : Prop := x.grownBy y (some R) ∧ Rdr y R (m + K * (n + 1))
section
variable {w x y : World} {row : Option Nat} {R m K n : Nat}
theorem RC.start (hg : w.grownBy x row) (h : Rdr x R m) (K : Nat) : RC w row R m K 0 x.drew := ⟨gb_drew hg, hg.size, h⟩
theorem RC.next (hr : row = some R ∨ w.heap.size ≤ R) (h : RT R m K n x y) (hx : RC w row R m K n x) : RC w row R m K (n + 1) y :=
  ⟨gb_step hx.1 h.1 (fun g e => by injection e with e; subst e; exact hr), Nat.le_trans hx.2.1 h.1.size, h.2⟩
theorem RC.same (hx : RC w row R m K n x) : RT R m K n x x := ⟨gb_refl _ _, hx.2.2.mono (Nat.add_le_add_left (Nat.mul_le_mul_left _ (Nat.le_succ _)) _)⟩
theorem RC.alloc (hx : RC w row R m K n x) (o : Obj) : RT R m K n x (x.alloc o) := ⟨gb_alloc (gb_refl _ _) _, (hx.2.2.mono (Nat.add_le_add_left (Nat.mul_le_mul_left _ (Nat.le_succ _)) _)).alloc o⟩
theorem RC.rdr (hx : RC w row R m K n x) : Rdr x R (m + K * n) := hx.2.2
end
end Go.Proofs.YtipnalfkpalieaaDoor
