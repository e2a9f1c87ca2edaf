/-
  How the laws compare piles and look for a number.
-/
import Derived.Test.YtifmljckmjnpfaaPilesMem
import Derived.Test.YtifmljckmjnpfaaKnown
namespace Go.Proofs.Ytifmljckmjnpfaa
open Go.RowKit
set_option linter.unusedVariables false


attribute [local go_sem] flowAct flowOp_def flowUpon
set_option maxHeartbeats 1000000 in
theorem c_samePiles (lo lo' : Nat) (A B : Option Addr) (n cap m cap' : Nat) (xs ys : List Pl) (w : World) (h : Piles w lo A n cap xs) (h' : Piles w lo' B m cap' ys) :
    Calls Try.prog 32 #[.slice A n cap, .slice B m cap'] w fun e w' => e = .returned (.bool (decide (xs = ys))) ∧ w.grownBy w' none := by
  have hlc := h.1
  have hcm := Sl.max h
  have hxl := Lib.hid h.len
  have hlc' := h'.1
  have hcm' := Sl.max h'
  have hyl := Lib.hid h'.len
  by_cases hnm : n = m
  · subst hnm
    go_enter Try.func32, Try.ntmps32
    go_wp2
    go_loopw [5] (fun i wr => ∃ k : Nat, k ≤ n ∧ i = .int .i64 k ∧ w.grownBy wr none ∧ Hid (xs.take k = ys.take k)) (fun i _ => n - (intOf i).toNat)
    case atStart => exact ⟨0, Nat.zero_le _, rfl, gb_refl _ _, Lib.hid rfl⟩
    case round =>
      obtain ⟨k, hk, rfl, hG, hpre⟩ := hrel
      by_cases hlt : k < n
      · obtain ⟨b, off, ⟨s, p⟩, rfl, _, _, hz, m0, m1⟩ := Piles.at_ (Piles.keep0 h hG) hlt
        obtain ⟨b', off', ⟨t, q⟩, rfl, _, _, hz', m0', m1'⟩ := Piles.at_ (Piles.keep0 h' hG) hlt
        have hk' : (k : Int) < (n : Int) := by omega
        have hk0 : (0 : Int) ≤ (k : Int) := by omega
        by_cases hst : s = t ∧ p = q
        · obtain ⟨rfl, rfl⟩ := hst
          have hh1 : (s.toList == s.toList) = true := by simp
          have hh2 : (p == p) = true := by simp
          go_wp2_with fail
          go_quiet (fail)
          go_wp2
          go_roundw
          case rel => exact ⟨k + 1, by omega, by go_num, gb_drewN hG _, Lib.hid (by rw [take_succ_of hz.out, take_succ_of hz'.out, hpre.out])⟩
          case measure => simp [intOf]; omega
        · have Hst := Lib.hid hst
          have hend : Hid (decide (xs = ys) = false) := Lib.hid (decide_eq_false (fun e => Hst.out (by
            subst e
            have := hz.out.symm.trans hz'.out
            injection this with this
            injection this with h1 h2
            exact ⟨h1, h2⟩)))
          by_cases h1 : s = t
          · have h2 : (p == q) = false := beq_eq_false_iff_ne.2 (fun e => hst ⟨h1, e⟩)
            have h3 : (s.toList == t.toList) = true := by rw [h1]; simp
            have H1 := Lib.hid h1
            clear h1 hst
            go_wp2_with fail
            go_quiet (fail)
            go_wp2
            go_ret
            exact ⟨ret_bool hend.out.symm, gb_drewN hG _⟩
          · have h3 : (s.toList == t.toList) = false := str_ne h1
            clear h1 hst
            go_wp2_with fail
            go_quiet (fail)
            go_wp2
            go_ret
            exact ⟨ret_bool hend.out.symm, gb_drewN hG _⟩
      · obtain rfl : k = n := by omega
        go_wp2
        go_ret
        exact ⟨ret_bool (decide_eq_true (by have := hpre.out; rwa [List.take_of_length_le (by rw [hxl.out]; exact Nat.le_refl _), List.take_of_length_le (by rw [hyl.out]; exact Nat.le_refl _)] at this)).symm, hG⟩
  · have hne : ((n : Int) != (m : Int)) = true := by rw [bne_iff_ne]; omega
    go_enter Try.func32, Try.ntmps32
    go_wp2
    go_ret
    exact ⟨ret_bool (decide_eq_false (fun e => hnm (by rw [← hxl.out, ← hyl.out, e]))).symm, gb_refl _ _⟩
end Go.Proofs.Ytifmljckmjnpfaa
