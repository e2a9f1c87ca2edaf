/-
  The walk of the law FnTreeRootPair: a tree of two is the sum of its leaves, a tree of three the sum of that and the third.
-/
import Derived.Test.YtocdgmmmegcnoaaRoot
import Derived.Test.YtocdgmmmegcnoaaDrawTree
import Derived.Test.YtocdgmmmegcnoaaKnown
namespace Go.Proofs.Ytocdgmmmegcnoaa.lawFnTreeRootPair
open Go.RowKit
set_option linter.unusedVariables false

theorem root2 {a b : ByteArray} (ha : okText a = true) (hb : okText b = true) : treeRoot [a, b] = nodeSum (leafSum 0 a) (leafSum 1 b) := by
  have hl : leavesOf [a, b] = [leafSum 0 a, leafSum 1 b] := rfl
  rw [treeRoot, if_pos (by simp [treeOK, ha, hb, inB]), hl, topRow_up (by simp), upRow, upRow, topRow_end (by simp)]
  rfl
theorem root3 {a b c : ByteArray} (ha : okText a = true) (hb : okText b = true) (hc : okText c = true) : treeRoot [a, b, c] = nodeSum (nodeSum (leafSum 0 a) (leafSum 1 b)) (leafSum 2 c) := by
  have hl : leavesOf [a, b, c] = [leafSum 0 a, leafSum 1 b, leafSum 2 c] := rfl
  rw [treeRoot, if_pos (by simp [treeOK, ha, hb, hc, inB]), hl, topRow_up (by simp), upRow, upRow, topRow_up (by simp), upRow, upRow, topRow_end (by simp)]
  rfl
theorem cut2 {l : List Value} : l.take (2 * 1) = l.take 2 := rfl
theorem cut3 {l : List Value} : l.take (3 * 1) = l.take 3 := rfl

attribute [local go_sem] flowAct flowOp_def flowUpon
set_option maxHeartbeats 1000000 in
theorem walk (a0 : Option Addr) (len0 cap0 : Nat) (w : World) (c0 : CodeArg w a0 len0 cap0) :
    Calls Try.prog 9 #[.slice a0 len0 cap0] w fun e w' => e = .returned (.bool true) ∧ Below w.heap.size w w' := by
  by_cases h0 : 1048576 < len0
  · go_enter Try.func9, Try.ntmps9
    go_wp2
    go_ret
    exact ⟨rfl, Below.refl _ _⟩
  go_enter Try.func9, Try.ntmps9
  go_wp2_with fail
  refine (c_DrawTreeRoot _ _ _ _ c0).mono ?_
  rintro e w1 ⟨A, q, c, ss, rfl, ho1, hss, hq, hg1⟩
  have hsl := str_own_len ho1
  have Hss : Hid (∀ s ∈ ss, s.size ≤ 2000000) := Lib.hid (fun s hs => by have := hss s hs; omega)
  clear hss c0
  go_wp2_with fail
  refine (c_impl_TreeRoot _ _ _ _ ss _ (Sl.own ho1) Hss.out).mono ?_
  rintro e w2 ⟨rfl, hg2⟩
  have hG2 := gb_trans hg1 hg2
  go_wp2_with fail
  refine (c_spec_TreeRoot _ _ _ _ ss _ (Sl.keep0 (Sl.own ho1) hg2) Hss.out).mono ?_
  rintro e w3 ⟨rfl, hg3⟩
  have hG3 := gb_trans hG2 hg3
  have hI3 : Strs w3 w.heap.size A q c ss := Sl.keep0 (Sl.own ho1) (gb_trans hg2 hg3)
  obtain ⟨T, hT⟩ : ∃ T, treeRoot ss = T := ⟨_, rfl⟩
  rw [hT]
  have hTT : (T != T) = false := by simp
  by_cases hneg : T < 0
  · clear hT
    go_wp2
    go_ret
    exact ⟨ret_bool (by simp), gb_below hG3⟩
  by_cases hq3 : q < 3
  · clear hT
    go_wp2
    go_ret
    exact ⟨ret_bool (by simp), gb_below hG3⟩
  have hok : treeOK ss = true := by
    cases hk : treeOK ss with
    | true => rfl
    | false => rw [treeRoot, hk] at hT; simp at hT; omega
  have hall : ∀ s ∈ ss, okText s = true := by
    rw [treeOK, Bool.and_eq_true, List.all_eq_true] at hok
    exact hok.1
  clear hT hok
  obtain ⟨g, rfl, hg0, hg1'⟩ := own_addr ho1 (by omega)
  obtain ⟨s0, s1, s2, r, rfl⟩ : ∃ s0 s1 s2 r, ss = s0 :: s1 :: s2 :: r := by
    match ss, hsl with
    | [], h => simp at h; omega
    | [_], h => simp at h; omega
    | [_, _], h => simp at h; omega
    | s0 :: s1 :: s2 :: r, _ => exact ⟨s0, s1, s2, r, rfl⟩
  have k0 := hall s0 (by simp)
  have k1 := hall s1 (by simp)
  have k2 := hall s2 (by simp)
  have b0 := Hss.out s0 (by simp)
  have b1 := Hss.out s1 (by simp)
  have b2 := Hss.out s2 (by simp)
  have hr2 := root2 k0 k1
  have hr3 := root3 k0 k1 k2
  have hlc := hI3.le
  have hcm := hI3.max
  have hI2 : Strs w3 w.heap.size (some ⟨g, 0, none⟩) 2 c [s0, s1] := ⟨by omega, hI3.2.1, by
    have := hI3.2.2.take (k := 2) (by omega)
    exact this⟩
  have hI33 : Strs w3 w.heap.size (some ⟨g, 0, none⟩) 3 c [s0, s1, s2] := ⟨by omega, hI3.2.1, by
    have := hI3.2.2.take (k := 3) (by omega)
    exact this⟩
  have hsz : ∀ s ∈ [s0, s1, s2], s.size ≤ 2000000 := by simp; exact ⟨b0, b1, b2⟩
  have hsz2 : ∀ s ∈ [s0, s1], s.size ≤ 2000000 := by simp; exact ⟨b0, b1⟩
  have m0 : w3.cell? ⟨g, 0, none⟩ = some (.string s0) := by
    obtain ⟨b, off, he, _, _, hc⟩ := hI3.2.2.2 (by omega)
    injection he with he; injection he with e1 e2; subst e1 e2
    exact hc 0 _ rfl
  have m1 : w3.cell? ⟨g, 1, none⟩ = some (.string s1) := by
    obtain ⟨b, off, he, _, _, hc⟩ := hI3.2.2.2 (by omega)
    injection he with he; injection he with e1 e2; subst e1 e2
    exact hc 1 _ rfl
  have m2 : w3.cell? ⟨g, 2, none⟩ = some (.string s2) := by
    obtain ⟨b, off, he, _, _, hc⟩ := hI3.2.2.2 (by omega)
    injection he with he; injection he with e1 e2; subst e1 e2
    exact hc 2 _ rfl
  obtain ⟨L0, hL0⟩ : ∃ L, leafSum 0 s0 = L := ⟨_, rfl⟩
  obtain ⟨L1, hL1⟩ : ∃ L, leafSum 1 s1 = L := ⟨_, rfl⟩
  obtain ⟨L2, hL2⟩ : ∃ L, leafSum 2 s2 = L := ⟨_, rfl⟩
  rw [hL0, hL1] at hr2
  rw [hL0, hL1, hL2] at hr3
  have HL0 := Lib.hid hL0
  have HL1 := Lib.hid hL1
  have HL2 := Lib.hid hL2
  have Hsz := Lib.hid hsz
  have Hsz2 := Lib.hid hsz2
  have Hr2 := Lib.hid hr2
  have Hr3 := Lib.hid hr3
  clear hL0 hL1 hL2 k0 k1 k2 hall hsl Hss hI3 ho1 hr2 hr3 hsz hsz2
  have hq3' : 3 ≤ q := by omega
  have hq2' : 2 ≤ q := by omega
  have hqa : 0 < q := by omega
  have hqb : (1 : Int) < (q : Int) := by omega
  have hqc : (2 : Int) < (q : Int) := by omega
  have hc2' : 2 ≤ c := by omega
  have hc3' : 3 ≤ c := by omega
  go_wp2_with fail
  refine (c_impl_TreeRoot _ _ _ _ [s0, s1] _ hI2 Hsz2.out).mono ?_
  rintro e w4 ⟨rfl, hg4⟩
  rw [Hr2.out]
  have hG4 := gb_trans hG3 hg4
  go_wp2_with fail
  refine (c_impl_TreeRoot _ _ _ _ [s0, s1, s2] _ (Sl.keep0 hI33 hg4) Hsz.out).mono ?_
  rintro e w5 ⟨rfl, hg5⟩
  rw [Hr3.out]
  have hg35 := gb_trans hg4 hg5
  have hG5 := gb_trans hG3 hg35
  go_wp2_with fail
  refine wp_known w3 [.int .i64 (nodeSum L0 L1), .slice (some ⟨g, 0, none⟩) q c, .pointer (some ⟨g, 0, none⟩), .string s0, .int .i64 L0, .slice (some ⟨g, 0, none⟩) q c, .pointer (some ⟨g, 1, none⟩), .string s1, .int .i64 L1,
    .int .i64 (nodeSum L0 L1), .bool true, .bool true, .int .i64 (nodeSum (nodeSum L0 L1) L2), .int .i64 (nodeSum L0 L1), .slice (some ⟨g, 0, none⟩) q c, .pointer (some ⟨g, 2, none⟩), .string s2, .int .i64 L2,
    .int .i64 (nodeSum (nodeSum L0 L1) L2), .bool true, .bool true, .bool true] hg35 (by kernel_rfl) (by kernel_rfl) ?_ ?_
  · refine ⟨?_, ?_, ?_, ?_, ?_, ?_, ?_, ?_, ?_, ?_, ?_, ?_, ?_, ?_, ?_, ?_, ?_, ?_, ?_, ?_, ?_, ?_, trivial⟩
    all_goals
      intro n u x hn hC hp
      simp [flowPreds, Region.binds, fKnown] at hp
      have m0' := gb_cell hC m0 (by simp)
      have m1' := gb_cell hC m1 (by simp)
      have m2' := gb_cell hC m2 (by simp)
      go_simp
    all_goals first
      | exact ⟨gb_refl _ _, rfl⟩
      | (refine (c_impl_LeafSum _ _ _ (by omega)).mono ?_
         rintro e y ⟨rfl, hg⟩
         first
         | exact ⟨_, rfl, hg, by rw [HL0.out]; rfl⟩
         | exact ⟨_, rfl, hg, by rw [HL1.out]; rfl⟩
         | exact ⟨_, rfl, hg, by rw [HL2.out]; rfl⟩)
      | (refine (c_impl_NodeSum _ _ _).mono ?_
         rintro e y ⟨rfl, rfl⟩
         exact ⟨_, rfl, gb_refl _ _, rfl⟩)
  · intro u x hC hp
    have e21 : u 21 = .bool true := hp 21 (by decide)
    go_simp
    go_wp2
    go_ret
    exact ⟨rfl, gb_below (gb_trans hG3 hC)⟩
end Go.Proofs.Ytocdgmmmegcnoaa.lawFnTreeRootPair
