/-
  How the laws copy and compare slices of integers and of strings.
-/
import Derived.Test.YtifmljckmjnpfaaParse
namespace Go.Proofs.Ytifmljckmjnpfaa
open Go.RowKit
set_option linter.unusedVariables false

abbrev intEz : Value := .int .i64 0
abbrev strEz : Value := .string ⟨#[]⟩


theorem strInfo : (Try.prog.info? 9).map (fun i => (i.zero, i.size, i.bytes)) = some (some (.string ⟨#[]⟩), 1, 16) := by kernel_rfl
theorem strE : Elem Try.prog 93 9 1 16 (.string ⟨#[]⟩) := ⟨Try.underlying93, info_parts strInfo, rfl, by omega⟩


set_option maxHeartbeats 400000 in
theorem c_eqIntS (lo lo' : Nat) (A B : Option Addr) (n cap m cap' : Nat) (xs ys : List Int) (w : World) (h : Ints w lo A n cap xs) (h' : Ints w lo' B m cap' ys) :
    Calls Try.prog 54 #[.slice A n cap, .slice B m cap'] w fun e w' => e = .returned (.bool (decide (xs = ys))) ∧ ∃ d, w' = w.drewN d := by
  have hlc := h.le
  have hcm := h.max
  have hxl := Lib.hid h.len
  have hlc' := h'.le
  have hcm' := h'.max
  have hyl := Lib.hid h'.len
  by_cases hnm : n = m
  · subst hnm
    go_enter Try.func54, Try.ntmps54
    go_wp2
    go_loopw [5] (fun i wr => ∃ k d : Nat, k ≤ n ∧ i = .int .i64 k ∧ wr = w.drewN d ∧ Hid (xs.take k = ys.take k)) (fun i _ => n - (intOf i).toNat)
    case atStart => exact ⟨0, 0, Nat.zero_le _, rfl, rfl, Lib.hid rfl⟩
    case round =>
      obtain ⟨k, d, hk, rfl, rfl, hpre⟩ := hrel
      by_cases hlt : k < n
      · obtain ⟨b, off, z, rfl, hz, hcell⟩ := h.at_ hlt
        obtain ⟨b', off', z', rfl, hz', hcell'⟩ := h'.at_ hlt
        have hk' : (k : Int) < (n : Int) := by omega
        by_cases hzz : z = z'
        · subst hzz
          go_wp2
          go_quiet (fail)
          go_wp2
          go_roundw
          case rel => exact ⟨k + 1, _, by omega, by go_num, rfl, Lib.hid (by rw [take_succ_of hz.out, take_succ_of hz'.out, hpre.out])⟩
          case measure => simp [intOf]; omega
        · have hne : (z != z') = true := bne_iff_ne.2 hzz
          have hne' : (z == z') = false := beq_eq_false_iff_ne.2 hzz
          go_wp2
          go_quiet (fail)
          go_wp2
          go_ret
          exact ⟨ret_bool (decide_eq_false (fun e => hzz (by subst e; have := hz.out.symm.trans hz'.out; injection this))).symm, _, World.drewN_drewN _ _ _⟩
      · obtain rfl : k = n := by omega
        go_wp2
        go_ret
        exact ⟨ret_bool (decide_eq_true (by have := hpre.out; rwa [List.take_of_length_le (by rw [hxl.out]; exact Nat.le_refl _), List.take_of_length_le (by rw [hyl.out]; exact Nat.le_refl _)] at this)).symm, _, rfl⟩
  · have hne : ((n : Int) != (m : Int)) = true := by rw [bne_iff_ne]; omega
    go_enter Try.func54, Try.ntmps54
    go_wp2
    go_ret
    exact ⟨ret_bool (decide_eq_false (fun e => hnm (by rw [← hxl.out, ← hyl.out, e]))).symm, 0, rfl⟩


set_option maxHeartbeats 400000 in
theorem c_sameInts (lo lo' : Nat) (A B : Option Addr) (n cap m cap' : Nat) (xs ys : List Int) (w : World) (h : Ints w lo A n cap xs) (h' : Ints w lo' B m cap' ys) :
    Calls Try.prog 38 #[.slice A n cap, .slice B m cap'] w fun e w' => e = .returned (.bool (decide (xs = ys))) ∧ ∃ d, w' = w.drewN d := by
  have hlc := h.le
  have hcm := h.max
  have hxl := Lib.hid h.len
  have hlc' := h'.le
  have hcm' := h'.max
  have hyl := Lib.hid h'.len
  by_cases hnm : n = m
  · subst hnm
    go_enter Try.func38, Try.ntmps38
    go_wp2
    go_loopw [5] (fun i wr => ∃ k d : Nat, k ≤ n ∧ i = .int .i64 k ∧ wr = w.drewN d ∧ Hid (xs.take k = ys.take k)) (fun i _ => n - (intOf i).toNat)
    case atStart => exact ⟨0, 0, Nat.zero_le _, rfl, rfl, Lib.hid rfl⟩
    case round =>
      obtain ⟨k, d, hk, rfl, rfl, hpre⟩ := hrel
      by_cases hlt : k < n
      · obtain ⟨b, off, z, rfl, hz, hcell⟩ := h.at_ hlt
        obtain ⟨b', off', z', rfl, hz', hcell'⟩ := h'.at_ hlt
        have hk' : (k : Int) < (n : Int) := by omega
        by_cases hzz : z = z'
        · subst hzz
          go_wp2
          go_quiet (fail)
          go_wp2
          go_roundw
          case rel => exact ⟨k + 1, _, by omega, by go_num, rfl, Lib.hid (by rw [take_succ_of hz.out, take_succ_of hz'.out, hpre.out])⟩
          case measure => simp [intOf]; omega
        · have hne : (z != z') = true := bne_iff_ne.2 hzz
          have hne' : (z == z') = false := beq_eq_false_iff_ne.2 hzz
          go_wp2
          go_quiet (fail)
          go_wp2
          go_ret
          exact ⟨ret_bool (decide_eq_false (fun e => hzz (by subst e; have := hz.out.symm.trans hz'.out; injection this))).symm, _, World.drewN_drewN _ _ _⟩
      · obtain rfl : k = n := by omega
        go_wp2
        go_ret
        exact ⟨ret_bool (decide_eq_true (by have := hpre.out; rwa [List.take_of_length_le (by rw [hxl.out]; exact Nat.le_refl _), List.take_of_length_le (by rw [hyl.out]; exact Nat.le_refl _)] at this)).symm, _, rfl⟩
  · have hne : ((n : Int) != (m : Int)) = true := by rw [bne_iff_ne]; omega
    go_enter Try.func38, Try.ntmps38
    go_wp2
    go_ret
    exact ⟨ret_bool (decide_eq_false (fun e => hnm (by rw [← hxl.out, ← hyl.out, e]))).symm, 0, rfl⟩
end Go.Proofs.Ytifmljckmjnpfaa
