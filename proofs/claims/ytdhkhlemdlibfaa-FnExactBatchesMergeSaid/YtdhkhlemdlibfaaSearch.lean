/-
  slices.BinarySearchFunc over batches by number.
-/
import Derived.Test.YtdhkhlemdlibfaaMergeLaw
import Derived.Test.YtdhkhlemdlibfaaKnown
namespace Go.Proofs.Ytdhkhlemdlibfaa
open Go.RowKit
set_option linter.unusedVariables false

def cmpI (x y : Int) : Int := if x < y then -1 else if y < x then 1 else 0

theorem c_isNaN (x : Int) (w : World) : Calls Try.prog 45 #[.int .i64 x] w fun e w' => e = .returned (.bool false) ∧ w = w' := by
  have hx : (x != x) = false := by simp
  go_enter Try.func45, Try.ntmps45
  go_wp2
  go_ret
  exact ⟨rfl, rfl⟩
theorem c_Compare (x y : Int) (w : World) : Calls Try.prog 26 #[.int .i64 x, .int .i64 y] w fun e w' => e = .returned (.int .i64 (cmpI x y)) ∧ w = w' := by
  by_cases h1 : x < y
  · have hc : Hid (cmpI x y = -1) := Lib.hid (by unfold cmpI; rw [if_pos h1])
    go_enter Try.func26, Try.ntmps26
    go_wp2_with fail
    refine (c_isNaN x _).mono ?_
    rintro e w1 ⟨rfl, rfl⟩
    go_wp2_with fail
    refine (c_isNaN y _).mono ?_
    rintro e w1 ⟨rfl, rfl⟩
    go_wp2
    go_ret
    exact ⟨ret_int hc.out.symm, rfl⟩
  · by_cases h2 : y < x
    · have hc : Hid (cmpI x y = 1) := Lib.hid (by unfold cmpI; rw [if_neg h1, if_pos h2])
      go_enter Try.func26, Try.ntmps26
      go_wp2_with fail
      refine (c_isNaN x _).mono ?_
      rintro e w1 ⟨rfl, rfl⟩
      go_wp2_with fail
      refine (c_isNaN y _).mono ?_
      rintro e w1 ⟨rfl, rfl⟩
      go_wp2
      go_ret
      exact ⟨ret_int hc.out.symm, rfl⟩
    · have hc : Hid (cmpI x y = 0) := Lib.hid (by unfold cmpI; rw [if_neg h1, if_neg h2])
      go_enter Try.func26, Try.ntmps26
      go_wp2_with fail
      refine (c_isNaN x _).mono ?_
      rintro e w1 ⟨rfl, rfl⟩
      go_wp2_with fail
      refine (c_isNaN y _).mono ?_
      rintro e w1 ⟨rfl, rfl⟩
      go_wp2
      go_ret
      exact ⟨ret_int hc.out.symm, rfl⟩

theorem c_merge1 (i2 o2 id : Int) (s : Value) (w : World) :
    Calls Try.prog 25 #[.agg #[.int .i64 i2, .int .i64 o2, s], .int .i64 id] w fun e w' => e = .returned (.int .i64 (cmpI i2 id)) ∧ w.grownBy w' none := by
  go_enter Try.func25, Try.ntmps25
  go_wp2_with fail
  refine (c_Compare i2 id _).mono ?_
  rintro e w1 ⟨rfl, rfl⟩
  go_wp2
  go_ret
  exact ⟨rfl, gb_alloc (gb_refl _ _) _⟩

theorem half (i j : Nat) (h : i < j) : i ≤ (i + j) / 2 ∧ (i + j) / 2 < j := by omega

set_option maxHeartbeats 1000000 in
theorem c_Search (lo : Nat) (A : Option Addr) (n cap : Nat) (bs : List Bt) (id : Int) (w : World) (h : Bats w lo A n cap bs) (ha : AscB bs) (hn : n ≤ 1000) :
    Calls Try.prog 24 #[.slice A n cap, .int .i64 id, .func (.func 25) #[] #[]] w fun e w' => e = .returned (.tuple #[.int .i64 (posB bs id : Int), .bool (knownB bs id)]) ∧ w.grownBy w' none := by
  have hlc := h.le
  have hcm := h.max
  have hxl := Lib.hid h.len
  have Ha := Lib.hid ha
  have hpn : posB bs id ≤ n := by rw [← hxl.out]; exact posB_le bs id
  clear ha
  obtain ⟨p, hp⟩ : ∃ p, posB bs id = p := ⟨_, rfl⟩
  have Hp := Lib.hid hp
  rw [hp] at hpn ⊢
  clear hp
  go_enter Try.func24, Try.ntmps24
  go_wp2
  go_loopw [9, 10] (fun i j wr => ∃ (x y : Nat), x ≤ p ∧ p ≤ y ∧ y ≤ n ∧ i = .int .i64 x ∧ j = .int .i64 y ∧ w.grownBy wr none) (fun i j _ => (intOf j).toNat - (intOf i).toNat)
  case atStart => exact ⟨0, n, Nat.zero_le _, hpn, Nat.le_refl _, rfl, rfl, gb_refl _ _⟩
  case round =>
    obtain ⟨x, y, hx, hy, hyn, rfl, rfl, hG⟩ := hrel
    rename World => wr
    by_cases hlt : x < y
    · obtain ⟨hm1, hm2⟩ := half x y hlt
      obtain ⟨m, hm⟩ : ∃ m, (x + y) / 2 = m := ⟨_, rfl⟩
      have hm' : ((x : Int) + (y : Int)) / 2 = (m : Int) := by omega
      rw [hm] at hm1 hm2
      have hmn : m < n := by omega
      obtain ⟨b, off, i2, o2, ps, A', c', rfl, hq, hps, m0, m1, m2⟩ := Bats.at_ (Recs.keep0 h hG) hmn
      have hxy' : (x : Int) < (y : Int) := by omega
      have hm3 : (m : Int) < (n : Int) := by omega
      have hm0 : (0 : Int) ≤ (m : Int) := by omega
      obtain ⟨N, hN⟩ : ∃ N, ps.length = N := ⟨_, rfl⟩
      rw [hN] at m2
      clear hN hps
      go_wp2_with fail
      refine (c_merge1 i2 o2 id _ _).mono ?_
      rintro e w1 ⟨rfl, hg1⟩
      by_cases hlow : i2 < id
      · have hc : cmpI i2 id = -1 := by unfold cmpI; rw [if_pos hlow]
        rw [hc]
        have hmp : m < p := by
          rcases Nat.lt_or_ge m p with h1 | h1
          · exact h1
          · have := posB_above (id := id) Ha.out (by rw [Hp.out]; exact h1) hq.out
            simp only at this
            omega
        go_wp2
        go_roundw
        case rel => exact ⟨m + 1, y, by omega, hy, hyn, by go_num, rfl, gb_trans hG hg1⟩
        case measure => simp [intOf]; omega
      · have hc : cmpI i2 id < 0 ↔ False := by
          unfold cmpI
          rw [if_neg hlow]
          split <;> simp
        obtain ⟨C, hC⟩ : ∃ C, cmpI i2 id = C := ⟨_, rfl⟩
        rw [hC] at hc ⊢
        have hC0 : ¬ C < 0 := fun e => hc.1 e
        clear hc hC
        have hmp : p ≤ m := by
          rcases Nat.lt_or_ge m p with h1 | h1
          · exact absurd (posB_below (id := id) Ha.out (by rw [Hp.out]; exact h1) hq.out) hlow
          · exact h1
        go_wp2
        go_roundw
        case rel => exact ⟨x, m, hx, hmp, by omega, rfl, rfl, gb_trans hG hg1⟩
        case measure => simp [intOf]; omega
    · obtain rfl : x = p := by omega
      obtain rfl : y = x := by omega
      by_cases hlast : y < n
      · obtain ⟨b, off, i2, o2, ps, A', c', rfl, hq, hps, m0, m1, m2⟩ := Bats.at_ (Recs.keep0 h hG) hlast
        have hy3 : (y : Int) < (n : Int) := by omega
        have hy0 : (0 : Int) ≤ (y : Int) := by omega
        obtain ⟨N, hN⟩ : ∃ N, ps.length = N := ⟨_, rfl⟩
        rw [hN] at m2
        clear hN hps
        have hkn : Hid (knownB bs id = (cmpI i2 id == 0)) := Lib.hid (by
          have hab := posB_above (id := id) Ha.out (by rw [Hp.out]; exact Nat.le_refl _) hq.out
          simp only at hab
          unfold knownB
          rw [Hp.out, hq.out]
          simp only [cmpI]
          by_cases he : i2 = id
          · simp [he]
          · rw [if_neg (by omega), if_pos (by omega)]
            simp [he])
        go_wp2_with fail
        refine (c_merge1 i2 o2 id _ _).mono ?_
        rintro e w1 ⟨rfl, hg1⟩
        go_wp2
        go_ret2
        exact ⟨by rw [hkn.out]; rfl, gb_trans hG hg1⟩
      · obtain rfl : y = n := by omega
        have hkn : Hid (knownB bs id = false) := Lib.hid (by
          unfold knownB
          rw [Hp.out, List.getElem?_eq_none (by rw [hxl.out]; exact Nat.le_refl _)])
        go_wp2
        go_ret2
        exact ⟨by rw [hkn.out]; rfl, hG⟩
end Go.Proofs.Ytdhkhlemdlibfaa
