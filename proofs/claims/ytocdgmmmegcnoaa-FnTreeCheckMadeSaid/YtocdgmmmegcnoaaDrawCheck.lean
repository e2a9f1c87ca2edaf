/-
  Drawn checks: spec.DrawTreeCheck.
-/
import Derived.Test.YtocdgmmmegcnoaaClimb
import Derived.Test.YtocdgmmmegcnoaaDrawTree
import Derived.OwnWalk
namespace Go.Proofs.Ytocdgmmmegcnoaa
open Go.RowKit
set_option linter.unusedVariables false

theorem results_tmp5 {fn : Func} {a b c d e : Tmp} (h : fn.results = #[.tmp a, .tmp b, .tmp c, .tmp d, .tmp e]) (tmps : Array Value) (P : Program) (w : World) :
    (results fn tmps).run P w = .ok (.tuple #[tmps.getD a undef, tmps.getD b undef, tmps.getD c undef, tmps.getD d undef, tmps.getD e undef]) w := by
  simp [results, h]
def CheckGot (w : World) (e : Ending) (w' : World) : Prop :=
  ∃ (root many place : Int) (t : ByteArray) (A : Option Addr) (m c : Nat) (xs : List Int), e = .returned (.tuple #[.int .i64 root, .int .i64 many, .int .i64 place, .string t, .slice A m c]) ∧ w.grownBy w' none ∧
    w'.ownsRow w.heap.size 3 1 (.slice A m c) m (xs.map (Value.int .i64)) ∧ m ≤ 4 ∧ t.size ≤ 2000000

theorem root_bd (ss : List ByteArray) : -1 ≤ treeRoot ss ∧ treeRoot ss ≤ 9972 := by
  cases h : treeOK ss with
  | true => have := root_val h; unfold Val at this; omega
  | false => rw [treeRoot, h]; simp

set_option maxHeartbeats 2000000 in
theorem c_DrawTreeCheck (A : Option Addr) (len cap : Nat) (w : World) (h : CodeArg w A len cap) :
    Calls Try.prog 39 #[.slice A len cap] w (CheckGot w) := by
  go_enter Try.func39, Try.ntmps39
  go_wp2_with fail
  refine (c_l6Open _ _ _ _ h).mono ?_
  rintro e w1 ⟨rfl, hR1, hg1, hz1⟩
  go_wp2_with fail
  refine (c_l93Leaves _ _ _ hR1 (by omega)).mono ?_
  rintro e w2 ⟨A', q, c, ss, rfl, ho, hs, hq, hR2, hg2, hl2⟩
  have hG2 : w.grownBy w2 none := gb_step hg1 hg2 (fun g e => by injection e with e; right; omega)
  have hsl := Lib.hid (str_own_len ho)
  have Hss : Hid (∀ s ∈ ss, s.size ≤ 2000000) := Lib.hid (fun s h => by have := hs s h; omega)
  clear hs
  go_wp2_with fail
  refine (c_spec_TreeRoot _ _ _ _ ss _ (Sl.own ho) Hss.out).mono ?_
  rintro e w3 ⟨rfl, hg3⟩
  obtain ⟨T, hT⟩ : ∃ T, treeRoot ss = T := ⟨_, rfl⟩
  have hTb := root_bd ss
  rw [hT] at hTb
  rw [hT]
  obtain ⟨hT0, hT1⟩ := hTb
  clear hT
  have hR3 := hR2.grown hg3 (by simp)
  have hG3 := gb_trans hG2 hg3
  have hw : IntKind.i64.wrap ((q : Int) + 1) = (q : Int) + 1 := IntWalk.i64_in _ (by omega)
  have hlo : w.heap.size < w1.heap.size := by omega
  have hlo1 := hg1.size
  have hlo2 := hg2.size
  have hlo3 := hg3.size
  clear hz1
  go_wp2_with fail
  refine (c_pick _ _ _ _ hR3 (by omega) (by omega) (by omega)).mono ?_
  rintro e w4 ⟨p, hp, rfl, hR4, hg4, hz4⟩
  have ho4 := own_kept (own_below ho hg3) hg4 (fun k e => by injection e with e; left; omega)
  have hG4 := gb_step hG3 hg4 (fun g e => by injection e with e; right; omega)
  clear hw
  go_wp2_with fail
  refine (c_spec_TreeProof _ _ _ _ ss _ _ (Sl.own ho4) Hss.out).mono ?_
  rintro e w5 ⟨A5, m5, c5, rfl, hg5, ho5⟩
  have ho4_5 := own_below ho4 hg5
  have hR5 := hR4.grown hg5 (by simp)
  have hG5 := gb_trans hG4 hg5
  have hsh := treeProof_short ss (p : Int)
  have hm5 : m5 ≤ 3 := by have := own_len ho5; omega
  obtain ⟨P, hP⟩ : ∃ P, proofOK ss (p : Int) = P := ⟨_, rfl⟩
  obtain ⟨zs, hzs⟩ : ∃ zs, treeProof ss (p : Int) = zs := ⟨_, rfl⟩
  rw [hP]
  rw [hzs] at ho5
  clear hsh hzs
  have hlo4 := hg4.size
  have hlo5 := hg5.size
  obtain ⟨t, ht, hpl, mt⟩ : ∃ t : ByteArray, t.size ≤ 2000000 ∧ (P = true → p < q ∧ ∃ b off, A' = some ⟨b, off, none⟩ ∧ w5.cell? ⟨b, off + p, none⟩ = some (.string t)) ∧ (P = false → t = ⟨#[97]⟩) := by
    cases P with
    | false => exact ⟨⟨#[97]⟩, by decide, (fun e => by cases e), fun _ => rfl⟩
    | true =>
      obtain ⟨p', s, he, hpl, hsp, _⟩ := proof_at hP
      have : p' = p := by omega
      subst this
      rw [hsl.out] at hpl
      obtain ⟨b, off, z, e1, hz, hc⟩ := (show Strs w5 _ A' q c ss from Sl.own ho4_5).at_ hpl
      have : z = s := by have := hz.out; rw [hsp] at this; injection this with this; exact this.symm
      subst this
      exact ⟨z, Hss.out z (List.mem_of_getElem? hsp), fun _ => ⟨hpl, b, off, e1, hc⟩, fun e => by cases e⟩
  clear hP
  cases P with
  | false =>
    obtain rfl := mt rfl
    clear hpl mt
    go_wp2_with fail
    refine (c_pick _ _ _ _ hR5 (by omega) (by omega) (by omega)).mono ?_
    rintro e w6 ⟨z, hz, rfl, hR6, hg6, hz6⟩
    have ho6 := own_kept ho5 hg6 (fun k e => by injection e with e; left; omega)
    have hG6 := gb_step hG5 hg6 (fun g e => by injection e with e; right; omega)
    have hlo6 := hg6.size
    have hob := own_base (lo' := w.heap.size) ho6 (by omega)
    clear hz6
    by_cases h0 : z = 0
    · subst h0
      go_wp2
      try simp only [Exit.inBlock, Exit.then]
      refine bodyPost_ret (results_tmp5 rfl _ _ _) rfl ?_
      exact ⟨_, _, _, _, _, _, _, zs, rfl, hG6, hob, by omega, by decide⟩
    by_cases h1 : z = 1
    · subst h1
      go_wp2
      try simp only [Exit.inBlock, Exit.then]
      refine bodyPost_ret (results_tmp5 rfl _ _ _) rfl ?_
      exact ⟨_, _, _, _, _, _, _, zs, rfl, hG6, hob, by omega, ht⟩
    by_cases h2 : z = 2
    · subst h2
      go_wp2_with (at_builtin; refine wpList_app intE rfl _ _ rfl w.heap.size m5 _ _ rfl hob [_] rfl rfl (by simp [Value.oneCell']) (by omega) (by omega) (by omega) ?_; intro A7 c7 w7 hown7 hb7 hg7 hat7)
      try simp only [Exit.inBlock, Exit.then]
      refine bodyPost_ret (results_tmp5 rfl _ _ _) rfl ?_
      exact ⟨_, _, _, _, _, _, _, zs ++ [5], rfl, gb_step hG6 hg7 (fun g e => .inr (hob.lt g e).1), by rw [List.map_append]; exact hown7, by omega, ht⟩
    by_cases h3 : z = 3
    · subst h3
      go_wp2_with fail
      refine (c_pick _ _ _ _ hR6 (by omega) (by omega) (by omega)).mono ?_
      rintro e w7 ⟨y, hy, rfl, hR7, hg7, hz7⟩
      have ho7 := own_kept ho6 hg7 (fun k e => by injection e with e; left; omega)
      have hG7 := gb_step hG6 hg7 (fun g e => by injection e with e; right; omega)
      have hob7 := own_base (lo' := w.heap.size) ho7 (by omega)
      go_wp2
      try simp only [Exit.inBlock, Exit.then]
      refine bodyPost_ret (results_tmp5 rfl _ _ _) rfl ?_
      exact ⟨_, _, _, _, _, _, _, zs, rfl, hG7, hob7, by omega, ht⟩
    have z0 : ((z : Int) == 0) = false := by simp; omega
    have z1 : ((z : Int) == 1) = false := by simp; omega
    have z2 : ((z : Int) == 2) = false := by simp; omega
    have z3 : ((z : Int) == 3) = false := by simp; omega
    go_wp2
    try simp only [Exit.inBlock, Exit.then]
    refine bodyPost_ret (results_tmp5 rfl _ _ _) rfl ?_
    exact ⟨_, _, _, _, _, _, _, zs, rfl, hG6, hob, by omega, ht⟩
  | true =>
    obtain ⟨hpq, b, off, rfl, hct⟩ := hpl rfl
    clear hpl mt
    have hpq' : (p : Int) < (q : Int) := by omega
    go_wp2_with fail
    refine (c_pick _ _ _ _ hR5 (by omega) (by omega) (by omega)).mono ?_
    rintro e w6 ⟨z, hz, rfl, hR6, hg6, hz6⟩
    have ho6 := own_kept ho5 hg6 (fun k e => by injection e with e; left; omega)
    have hG6 := gb_step hG5 hg6 (fun g e => by injection e with e; right; omega)
    have hlo6 := hg6.size
    have hob := own_base (lo' := w.heap.size) ho6 (by omega)
    clear hz6
    by_cases h0 : z = 0
    · subst h0
      go_wp2
      try simp only [Exit.inBlock, Exit.then]
      refine bodyPost_ret (results_tmp5 rfl _ _ _) rfl ?_
      exact ⟨_, _, _, _, _, _, _, zs, rfl, hG6, hob, by omega, by decide⟩
    by_cases h1 : z = 1
    · subst h1
      go_wp2
      try simp only [Exit.inBlock, Exit.then]
      refine bodyPost_ret (results_tmp5 rfl _ _ _) rfl ?_
      exact ⟨_, _, _, _, _, _, _, zs, rfl, hG6, hob, by omega, ht⟩
    by_cases h2 : z = 2
    · subst h2
      go_wp2_with (at_builtin; refine wpList_app intE rfl _ _ rfl w.heap.size m5 _ _ rfl hob [_] rfl rfl (by simp [Value.oneCell']) (by omega) (by omega) (by omega) ?_; intro A7 c7 w7 hown7 hb7 hg7 hat7)
      try simp only [Exit.inBlock, Exit.then]
      refine bodyPost_ret (results_tmp5 rfl _ _ _) rfl ?_
      exact ⟨_, _, _, _, _, _, _, zs ++ [5], rfl, gb_step hG6 hg7 (fun g e => .inr (hob.lt g e).1), by rw [List.map_append]; exact hown7, by omega, ht⟩
    by_cases h3 : z = 3
    · subst h3
      go_wp2_with fail
      refine (c_pick _ _ _ _ hR6 (by omega) (by omega) (by omega)).mono ?_
      rintro e w7 ⟨y, hy, rfl, hR7, hg7, hz7⟩
      have ho7 := own_kept ho6 hg7 (fun k e => by injection e with e; left; omega)
      have hG7 := gb_step hG6 hg7 (fun g e => by injection e with e; right; omega)
      have hob7 := own_base (lo' := w.heap.size) ho7 (by omega)
      go_wp2
      try simp only [Exit.inBlock, Exit.then]
      refine bodyPost_ret (results_tmp5 rfl _ _ _) rfl ?_
      exact ⟨_, _, _, _, _, _, _, zs, rfl, hG7, hob7, by omega, ht⟩
    have z0 : ((z : Int) == 0) = false := by simp; omega
    have z1 : ((z : Int) == 1) = false := by simp; omega
    have z2 : ((z : Int) == 2) = false := by simp; omega
    have z3 : ((z : Int) == 3) = false := by simp; omega
    go_wp2
    try simp only [Exit.inBlock, Exit.then]
    refine bodyPost_ret (results_tmp5 rfl _ _ _) rfl ?_
    exact ⟨_, _, _, _, _, _, _, zs, rfl, hG6, hob, by omega, ht⟩
end Go.Proofs.Ytocdgmmmegcnoaa
