/-
  The walk of the law FnTreeProofLength: a proof is short.
-/
import Derived.Test.YtocdgmmmegcnoaaClimb
import Derived.Test.YtocdgmmmegcnoaaDrawTree
import Derived.Test.YtocdgmmmegcnoaaKnown
import Derived.Test.YtocdgmmmegcnoaaTo
namespace Go.Proofs.Ytocdgmmmegcnoaa.lawFnTreeProofLength
open Go.RowKit
set_option linter.unusedVariables false

attribute [local go_sem] flowAct flowOp_def flowUpon
set_option maxHeartbeats 2000000 in
theorem walk (a0 : Option Addr) (len0 cap0 : Nat) (w : World) (c0 : CodeArg w a0 len0 cap0) :
    Calls Try.prog 11 #[.slice a0 len0 cap0] w fun e w' => e = .returned (.bool true) ∧ Below w.heap.size w w' := by
  by_cases h0 : 1048576 < len0
  · go_enter Try.func11, Try.ntmps11
    go_wp2
    go_ret
    exact ⟨rfl, Below.refl _ _⟩
  go_enter Try.func11, Try.ntmps11
  go_wp2_with fail
  refine (c_DrawTreeProof _ _ _ _ c0).mono ?_
  rintro e w1 ⟨A, q, c, ss, place, rfl, hp0, hp1, ho1, hss, hq, hg1⟩
  have hsl := Lib.hid (str_own_len ho1)
  have Hss : Hid (∀ s ∈ ss, s.size ≤ 2000000) := Lib.hid (fun s hs => by have := hss s hs; omega)
  obtain ⟨P, hP⟩ : ∃ P, proofOK ss place = P := ⟨_, rfl⟩
  obtain ⟨zs, hzs⟩ : ∃ zs, treeProof ss place = zs := ⟨_, rfl⟩
  have hzl : Hid (zs.length ≤ 3) := Lib.hid (by rw [← hzs]; exact treeProof_short _ _)
  have HP := Lib.hid hP
  have HZ := Lib.hid hzs
  have hdz : decide (zs = zs) = true := by simp
  have hPP : (P != P) = false := by simp
  clear hss c0 hP hzs
  go_wp2_with fail
  refine (c_impl_TreeProof _ _ _ _ ss place _ (Sl.own ho1) Hss.out).mono ?_
  rintro e w2 ⟨A2, m2, c2, rfl, hg2, ho2⟩
  rw [HP.out]
  rw [HZ.out] at ho2
  have hG2 := gb_trans hg1 hg2
  go_wp2_with fail
  refine (c_spec_TreeProof _ _ _ _ ss place _ (Sl.keep0 (Sl.own ho1) hg2) Hss.out).mono ?_
  rintro e w3 ⟨A3, m3, c3, rfl, hg3, ho3⟩
  rw [HP.out]
  rw [HZ.out] at ho3
  have hG3 := gb_trans hG2 hg3
  have ho2_3 := own_below ho2 hg3
  have hI3 : Strs w3 w.heap.size A q c ss := Sl.keep0 (Sl.own ho1) (gb_trans hg2 hg3)
  have hO3 := Sl.own ho2_3
  go_wp2_with fail
  refine (c_sameInts _ _ _ _ _ _ _ _ zs zs _ hO3 (Sl.own ho3)).mono ?_
  rintro e w4 ⟨rfl, d4, rfl⟩
  cases P with
  | false =>
    go_wp2_with fail
    refine (c_sameInts _ _ _ _ _ _ _ _ zs zs _ (Sl.drewN hO3 d4) (Sl.drewN (Sl.own ho3) d4)).mono ?_
    rintro e w5 ⟨rfl, d5, rfl⟩
    go_wp2
    go_ret
    exact ⟨rfl, gb_below (gb_drewN hG3 (d4 + d5))⟩
  | true =>
    obtain ⟨p, s, rfl, hpl, hsp, hok, hl1, hl8, htp⟩ := proof_at HP.out
    rw [HZ.out] at htp
    rw [hsl.out] at hpl hl1 hl8
    have Hsp := Lib.hid hsp
    have Hok := Lib.hid hok
    have Htp := Lib.hid htp
    have hsz := Hss.out s (List.mem_of_getElem? hsp)
    have hm2 : m2 ≤ 3 := by have := own_len ho2; have := hzl.out; omega
    have hzm := Lib.hid (own_len ho2)
    clear hsp hok htp hp0 hp1
    obtain ⟨g, rfl, hg0, hg1'⟩ := own_addr ho1 (by omega)
    have mp : w3.cell? ⟨g, p, none⟩ = some (.string s) := by
      obtain ⟨b, off, he, _, _, hc⟩ := hI3.2.2.2 (by omega)
      injection he with he; injection he with e1 e2; subst e1 e2
      have := hc p (.string s) (by rw [List.getElem?_map, Hsp.out]; rfl)
      rwa [Nat.zero_add] at this
    have hpi : (p : Int) < (q : Int) := by omega
    have hlc := hI3.le
    have hcm := hI3.max
    have hlcO := hO3.le
    have hcmO := hO3.max
    have hG4 := gb_drewN (gb_refl w3 none) d4
    obtain ⟨T, hT⟩ : ∃ T, treeRoot ss = T := ⟨_, rfl⟩
    have HT := Lib.hid hT
    clear hT
    have hm2' : (m2 : Int) ≤ 3 := by omega
    by_cases hq1 : 1 < q
    · have hq1' : (1 : Int) < (q : Int) := by omega
      go_wp2_with fail
      refine wp_known w3 [.slice A2 m2 c2, .int .i64 m2, .bool true, .bool true, .slice (some ⟨g, 0, none⟩) q c, .int .i64 q, .bool true, .bool true, undef, undef, undef, undef, undef, undef, undef, undef, undef, undef, undef, undef, .bool true, .bool true, .bool true] hG4 (by kernel_rfl) (by kernel_rfl) ?_ ?_
      · refine ⟨?_, ?_, ?_, ?_, ?_, ?_, ?_, ?_, ?_, ?_, ?_, ?_, ?_, ?_, ?_, ?_, ?_, ?_, ?_, ?_, ?_, ?_, ?_, trivial⟩
        all_goals
          intro n u x hn hC hp
          simp [flowPreds, Region.binds, fKnown] at hp
          have mp' := gb_cell hC mp (by simp)
          have hIx := Sl.keep0 hI3 hC
          have hOx := Sl.keep0 hO3 hC
          go_simp
        all_goals first
          | exact ⟨gb_refl _ _, rfl⟩
          | skip
      · intro u x hC hp
        have e1 : u 22 = .bool true := hp 22 (by decide)
        go_simp
        go_wp2
        go_ret
        exact ⟨rfl, gb_below (gb_trans hG3 hC)⟩
    · obtain rfl : q = 1 := by omega
      obtain rfl : p = 0 := by omega
      have hss1 : ss = [s] := by
        have h1 := hsl.out
        have h2 := Hsp.out
        match ss, h1, h2 with
        | [x], _, h2 => simp at h2; rw [h2]
      have hz0 : zs = [] := by rw [Htp.out]; exact proofGo_end (by rw [leavesOf_len, hsl.out]; exact Nat.le_refl _)
      obtain rfl : m2 = 0 := by have := hzm.out; rw [hz0] at this; exact this.symm
      have hTL : Hid (leafSum 0 s = T) := Lib.hid (by
        rw [← HT.out, ← climb_leaf (p := 0) Hok.out Hsp.out]
        exact (climb_end (by rw [leavesOf_len, hsl.out]; exact Nat.le_refl _)).symm)
      clear hss1 hz0
      go_wp2_with fail
      refine wp_known w3 [.slice A2 0 c2, .int .i64 0, .bool true, .bool true, .slice (some ⟨g, 0, none⟩) 1 c, .int .i64 1, .bool false, .bool false, .slice A2 0 c2, .int .i64 0, .bool true, .bool true, .slice (some ⟨g, 0, none⟩) 1 c, .int .i64 T, .slice (some ⟨g, 0, none⟩) 1 c, .pointer (some ⟨g, 0, none⟩), .string s, .int .i64 T, .bool true, .bool true, .bool true, .bool true, .bool true] hG4 (by kernel_rfl) (by kernel_rfl) ?_ ?_
      · refine ⟨?_, ?_, ?_, ?_, ?_, ?_, ?_, ?_, ?_, ?_, ?_, ?_, ?_, ?_, ?_, ?_, ?_, ?_, ?_, ?_, ?_, ?_, ?_, trivial⟩
        all_goals
          intro n u x hn hC hp
          simp [flowPreds, Region.binds, fKnown] at hp
          have mp' := gb_cell hC mp (by simp)
          have hIx := Sl.keep0 hI3 hC
          have hOx := Sl.keep0 hO3 hC
          go_simp
        all_goals first
          | exact ⟨gb_refl _ _, rfl⟩
          | (refine (c_impl_TreeRoot _ _ _ _ ss _ hIx Hss.out).mono ?_
             rintro e y ⟨rfl, hg⟩
             exact ⟨_, rfl, hg, by rw [HT.out]; rfl⟩)
          | (refine (c_impl_LeafSum _ _ _ hsz).mono ?_
             rintro e y ⟨rfl, hg⟩
             exact ⟨_, rfl, hg, by rw [hTL.out]; rfl⟩)
      · intro u x hC hp
        have e1 : u 22 = .bool true := hp 22 (by decide)
        go_simp
        go_wp2
        go_ret
        exact ⟨rfl, gb_below (gb_trans hG3 hC)⟩
end Go.Proofs.Ytocdgmmmegcnoaa.lawFnTreeProofLength
