/-
  How the laws compare returns. MADE BY PROGRAM (wip/mk_samebats.py).
-/
import Derived.Test.YtdhkhlemdlibfaaSameB
namespace Go.Proofs.Ytdhkhlemdlibfaa
open Go.RowKit
set_option linter.unusedVariables false

attribute [local go_sem] flowAct flowOp_def flowUpon
set_option maxHeartbeats 4000000 in
theorem c_sameBatches (lo lo' : Nat) (A B : Option Addr) (n cap m cap' : Nat) (xs ys : List Bt) (w : World) (h : Bats w lo A n cap xs) (h' : Bats w lo' B m cap' ys) :
    Calls Try.prog 11 #[.slice A n cap, .slice B m cap'] w fun e w' => e = .returned (.bool (decide (xs = ys))) ∧ w.grownBy w' none := by
  have hlc := h.le
  have hcm := h.max
  have hxl := Lib.hid h.len
  have hlc' := h'.le
  have hcm' := h'.max
  have hyl := Lib.hid h'.len
  by_cases hnm : n = m
  · subst hnm
    go_enter Try.func11, Try.ntmps11
    go_wp2
    go_loopw [5] (fun i wr => ∃ k : Nat, k ≤ n ∧ i = .int .i64 k ∧ w.grownBy wr none ∧ Hid (xs.take k = ys.take k)) (fun i _ => n - (intOf i).toNat)
    case atStart => exact ⟨0, Nat.zero_le _, rfl, gb_refl _ _, Lib.hid rfl⟩
    case round =>
      obtain ⟨k, hk, rfl, hG, hpre⟩ := hrel
      by_cases hlt : k < n
      · obtain ⟨b, off, i1, o1, p1, A1, c1, rfl, hz, hp1, m0, m1, m2⟩ := Bats.at_ (Recs.keep0 h hG) hlt
        obtain ⟨b', off', i2, o2, p2, A2, c2, rfl, hz', hp2, m0', m1', m2'⟩ := Bats.at_ (Recs.keep0 h' hG) hlt
        have hk' : (k : Int) < (n : Int) := by omega
        have hk0 : (0 : Int) ≤ (k : Int) := by omega
        have hcall := fun (x : World) (hx : wr.grownBy x none) => c_samePiles lo lo' A1 A2 p1.length c1 p2.length c2 p1 p2 x (hp1.keep0 hx) (hp2.keep0 hx)
        have Hc := Lib.hid hcall
        clear hcall hp1 hp2
        obtain ⟨N, hN⟩ : ∃ N, p1.length = N := ⟨_, rfl⟩
        obtain ⟨M, hM⟩ : ∃ M, p2.length = M := ⟨_, rfl⟩
        rw [hN] at m2 Hc
        rw [hM] at m2' Hc
        clear hN hM
        have hend : Hid ((i1, o1, p1) ≠ ((i2, o2, p2) : Bt) → decide (xs = ys) = false) := Lib.hid (fun hne => decide_eq_false (fun e => hne (by
          subst e
          have := hz.out.symm.trans hz'.out
          injection this)))
        by_cases hi : i1 = i2
        · subst hi
          have e0 : (i1 != i1) = false := by simp
          by_cases ho : o1 = o2
          · subst ho
            have e2 : (o1 != o1) = false := by simp
            obtain ⟨D, hD⟩ : ∃ D, decide (p1 = p2) = D := ⟨_, rfl⟩
            have HD := Lib.hid hD
            rw [hD] at Hc
            clear hD
            go_wp2_with fail
            refine wp_known wr [.slice (some ⟨b, off, none⟩) n cap, .int .i64 k, .pointer (some ⟨b, off + k * 3, none⟩), .pointer (some ⟨b, off + k * 3, none⟩), .int .i64 i1, .slice (some ⟨b', off', none⟩) n cap', .int .i64 k, .pointer (some ⟨b', off' + k * 3, none⟩), .pointer (some ⟨b', off' + k * 3, none⟩), .int .i64 i1, .bool false, .bool false, .slice (some ⟨b, off, none⟩) n cap, .int .i64 k, .pointer (some ⟨b, off + k * 3, none⟩), .pointer (some ⟨b, off + k * 3 + 1, none⟩), .int .i64 o1, .slice (some ⟨b', off', none⟩) n cap', .int .i64 k, .pointer (some ⟨b', off' + k * 3, none⟩), .pointer (some ⟨b', off' + k * 3 + 1, none⟩), .int .i64 o1, .bool false, .bool false, .bool false, .slice (some ⟨b, off, none⟩) n cap, .int .i64 k, .pointer (some ⟨b, off + k * 3, none⟩), .pointer (some ⟨b, off + k * 3 + 2, none⟩), .slice A1 N c1, .slice (some ⟨b', off', none⟩) n cap', .int .i64 k, .pointer (some ⟨b', off' + k * 3, none⟩), .pointer (some ⟨b', off' + k * 3 + 2, none⟩), .slice A2 M c2, .bool D, .bool !D, .bool !D] (gb_refl _ _) (by kernel_rfl) (by kernel_rfl) ?_ ?_
            · refine ⟨?_, ?_, ?_, ?_, ?_, ?_, ?_, ?_, ?_, ?_, ?_, ?_, ?_, ?_, ?_, ?_, ?_, ?_, ?_, ?_, ?_, ?_, ?_, ?_, ?_, ?_, ?_, ?_, ?_, ?_, ?_, ?_, ?_, ?_, ?_, ?_, ?_, ?_, trivial⟩
              all_goals
                intro nn u x hn hC hp
                simp [flowPreds, Region.binds, fKnown] at hp
                have n0 := gb_cell hC m0 (by simp)
                have n0' := gb_cell hC m0' (by simp)
                have n1 := gb_cell hC m1 (by simp)
                have n1' := gb_cell hC m1' (by simp)
                have n2 := gb_cell hC m2 (by simp)
                have n2' := gb_cell hC m2' (by simp)
                go_simp
              all_goals try exact ⟨gb_refl _ _, rfl⟩
              · refine (Hc.out _ hC).mono ?_
                rintro e y ⟨rfl, hg⟩
                exact ⟨_, rfl, hg, rfl⟩
            · intro u x hC hp'
              have e1 : u 37 = .bool !D := hp' 37 (by decide)
              clear Hc
              cases D with
              | true =>
                have hst := of_decide_eq_true HD.out
                have Hst := Lib.hid hst
                clear hst
                go_simp
                go_wp2
                go_roundw
                case rel => exact ⟨k + 1, by omega, by go_num, gb_trans hG hC, Lib.hid (by rw [take_succ_of hz.out, take_succ_of hz'.out, hpre.out, Hst.out])⟩
                case measure => simp [intOf]; omega
              | false =>
                have hst := of_decide_eq_false HD.out
                have Hst := Lib.hid hst
                clear hst
                go_simp
                go_wp2
                go_ret
                exact ⟨ret_bool (hend.out (fun e => Hst.out (by injection e with e1 e2; injection e2))).symm, gb_trans hG hC⟩
          · have e2 : (o1 != o2) = true := bne_iff_ne.2 ho
            have Hi := Lib.hid ho
            clear ho
            go_wp2_with fail
            refine wp_known wr [.slice (some ⟨b, off, none⟩) n cap, .int .i64 k, .pointer (some ⟨b, off + k * 3, none⟩), .pointer (some ⟨b, off + k * 3, none⟩), .int .i64 i1, .slice (some ⟨b', off', none⟩) n cap', .int .i64 k, .pointer (some ⟨b', off' + k * 3, none⟩), .pointer (some ⟨b', off' + k * 3, none⟩), .int .i64 i1, .bool false, .bool false, .slice (some ⟨b, off, none⟩) n cap, .int .i64 k, .pointer (some ⟨b, off + k * 3, none⟩), .pointer (some ⟨b, off + k * 3 + 1, none⟩), .int .i64 o1, .slice (some ⟨b', off', none⟩) n cap', .int .i64 k, .pointer (some ⟨b', off' + k * 3, none⟩), .pointer (some ⟨b', off' + k * 3 + 1, none⟩), .int .i64 o2, .bool true, .bool true, .bool true, undef, undef, undef, undef, undef, undef, undef, undef, undef, undef, undef, undef, .bool true] (gb_refl _ _) (by kernel_rfl) (by kernel_rfl) ?_ ?_
            · refine ⟨?_, ?_, ?_, ?_, ?_, ?_, ?_, ?_, ?_, ?_, ?_, ?_, ?_, ?_, ?_, ?_, ?_, ?_, ?_, ?_, ?_, ?_, ?_, ?_, ?_, ?_, ?_, ?_, ?_, ?_, ?_, ?_, ?_, ?_, ?_, ?_, ?_, ?_, trivial⟩
              all_goals
                intro nn u x hn hC hp
                simp [flowPreds, Region.binds, fKnown] at hp
                have n0 := gb_cell hC m0 (by simp)
                have n0' := gb_cell hC m0' (by simp)
                have n1 := gb_cell hC m1 (by simp)
                have n1' := gb_cell hC m1' (by simp)
                go_simp
              all_goals try exact ⟨gb_refl _ _, rfl⟩
            · intro u x hC hp'
              have e1 : u 37 = .bool true := hp' 37 (by decide)
              clear Hc
              go_simp
              go_wp2
              go_ret
              exact ⟨ret_bool (hend.out (fun e => Hi.out (by injection e with e1 e2; injection e2))).symm, gb_trans hG hC⟩
        · have e0 : (i1 != i2) = true := bne_iff_ne.2 hi
          have Hi := Lib.hid hi
          clear hi
          go_wp2_with fail
          refine wp_known wr [.slice (some ⟨b, off, none⟩) n cap, .int .i64 k, .pointer (some ⟨b, off + k * 3, none⟩), .pointer (some ⟨b, off + k * 3, none⟩), .int .i64 i1, .slice (some ⟨b', off', none⟩) n cap', .int .i64 k, .pointer (some ⟨b', off' + k * 3, none⟩), .pointer (some ⟨b', off' + k * 3, none⟩), .int .i64 i2, .bool true, .bool true, undef, undef, undef, undef, undef, undef, undef, undef, undef, undef, undef, .bool true, .bool true, undef, undef, undef, undef, undef, undef, undef, undef, undef, undef, undef, undef, .bool true] (gb_refl _ _) (by kernel_rfl) (by kernel_rfl) ?_ ?_
          · refine ⟨?_, ?_, ?_, ?_, ?_, ?_, ?_, ?_, ?_, ?_, ?_, ?_, ?_, ?_, ?_, ?_, ?_, ?_, ?_, ?_, ?_, ?_, ?_, ?_, ?_, ?_, ?_, ?_, ?_, ?_, ?_, ?_, ?_, ?_, ?_, ?_, ?_, ?_, trivial⟩
            all_goals
              intro nn u x hn hC hp
              simp [flowPreds, Region.binds, fKnown] at hp
              have n0 := gb_cell hC m0 (by simp)
              have n0' := gb_cell hC m0' (by simp)
              go_simp
            all_goals try exact ⟨gb_refl _ _, rfl⟩
          · intro u x hC hp'
            have e1 : u 37 = .bool true := hp' 37 (by decide)
            clear Hc
            go_simp
            go_wp2
            go_ret
            exact ⟨ret_bool (hend.out (fun e => Hi.out (by injection e))).symm, gb_trans hG hC⟩
      · obtain rfl : k = n := by omega
        go_wp2
        go_ret
        exact ⟨ret_bool (decide_eq_true (by have := hpre.out; rwa [List.take_of_length_le (by rw [hxl.out]; exact Nat.le_refl _), List.take_of_length_le (by rw [hyl.out]; exact Nat.le_refl _)] at this)).symm, hG⟩
  · have hne : ((n : Int) != (m : Int)) = true := by rw [bne_iff_ne]; omega
    go_enter Try.func11, Try.ntmps11
    go_wp2
    go_ret
    exact ⟨ret_bool (decide_eq_false (fun e => hnm (by rw [← hxl.out, ← hyl.out, e]))).symm, gb_refl _ _⟩
end Go.Proofs.Ytdhkhlemdlibfaa
