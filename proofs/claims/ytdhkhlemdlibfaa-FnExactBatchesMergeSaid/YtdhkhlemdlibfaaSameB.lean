/-
  How the laws compare returns and look for a number; slices.Equal at piles.
-/
import Derived.Test.YtdhkhlemdlibfaaSame
import Derived.Test.YtdhkhlemdlibfaaMergeLaw
namespace Go.Proofs.Ytdhkhlemdlibfaa
open Go.RowKit
set_option linter.unusedVariables false

def hasB (bs : List Bt) (id : Int) : Bool := bs.any fun b => b.1 == id
set_option maxHeartbeats 400000 in
theorem c_hasBatch (lo : Nat) (A : Option Addr) (n cap : Nat) (bs : List Bt) (id : Int) (w : World) (h : Bats w lo A n cap bs) :
    Calls Try.prog 12 #[.slice A n cap, .int .i64 id] w fun e w' => e = .returned (.bool (hasB bs id)) ∧ w = w' := by
  have hlc := h.le
  have hcm := h.max
  have hxl := Lib.hid h.len
  go_enter Try.func12, Try.ntmps12
  go_wp2
  go_loop [5] (fun i => ∃ k : Nat, k ≤ n ∧ i = .int .i64 k ∧ Hid ((bs.take k).any (fun b => b.1 == id) = false)) (fun i => n - (intOf i).toNat)
  case atStart => exact ⟨0, Nat.zero_le _, rfl, Lib.hid rfl⟩
  case round =>
    obtain ⟨k, hk, rfl, hpre⟩ := hrel
    by_cases hlt : k < n
    · obtain ⟨b, off, i2, o2, ps, A', c', rfl, hp, hps, m0, m1, m2⟩ := Bats.at_ h hlt
      have hk' : (k : Int) < (n : Int) := by omega
      have hk0 : (0 : Int) ≤ (k : Int) := by omega
      clear hps m2
      by_cases ho : i2 = id
      · have hob : (i2 == id) = true := by simpa using ho
        have Ho := Lib.hid ho
        clear ho
        go_wp2
        go_ret
        exact ⟨ret_bool (by
          unfold hasB
          exact (List.any_eq_true.2 ⟨_, List.mem_of_getElem? hp.out, by simp [Ho.out]⟩).symm), rfl⟩
      · have hob : (i2 == id) = false := by simpa using ho
        have Ho := Lib.hid ho
        clear ho
        go_wp2
        go_round
        case rel => exact ⟨k + 1, by omega, by go_num, Lib.hid (by rw [take_succ_of hp.out, List.any_append, hpre.out]; simp [Ho.out])⟩
        case measure => simp [intOf]; omega
    · obtain rfl : k = n := by omega
      go_wp2
      go_ret
      exact ⟨ret_bool (by
        unfold hasB
        have := hpre.out
        rw [List.take_of_length_le (by rw [hxl.out]; exact Nat.le_refl _)] at this
        exact this.symm), rfl⟩

/-- The first place of a number, or -1. -/
def findB (bs : List Bt) (id : Int) : Int := match bs.findIdx? fun b => b.1 == id with | some k => k | none => -1
theorem findB_none {bs : List Bt} {id : Int} (h : ∀ b ∈ bs, b.1 ≠ id) : findB bs id = -1 := by
  unfold findB
  rw [List.findIdx?_eq_none_iff.2 (fun b hb => by simpa using h b hb)]
theorem findB_some {bs : List Bt} {id : Int} {k : Nat} {x : Bt} (hx : bs[k]? = some x) (he : x.1 = id) (h : (bs.take k).any (fun b => b.1 == id) = false) : findB bs id = k := by
  unfold findB
  obtain ⟨hk, hx'⟩ := List.getElem?_eq_some_iff.1 hx
  rw [List.findIdx?_eq_some_iff_getElem.2 ⟨hk, by rw [hx', he]; simp, fun j hj => by
    have := List.any_eq_false.1 h (bs[j]'(by omega)) (List.mem_iff_getElem.2 ⟨j, by simp; omega, by simp⟩)
    simpa using this⟩]
set_option maxHeartbeats 400000 in
theorem c_l43Find (lo : Nat) (A : Option Addr) (n cap : Nat) (bs : List Bt) (id : Int) (w : World) (h : Bats w lo A n cap bs) :
    Calls Try.prog 30 #[.slice A n cap, .int .i64 id] w fun e w' => e = .returned (.int .i64 (findB bs id)) ∧ w = w' := by
  have hlc := h.le
  have hcm := h.max
  have hxl := Lib.hid h.len
  go_enter Try.func30, Try.ntmps30
  go_wp2
  go_loop [5] (fun i => ∃ k : Nat, k ≤ n ∧ i = .int .i64 k ∧ Hid ((bs.take k).any (fun b => b.1 == id) = false)) (fun i => n - (intOf i).toNat)
  case atStart => exact ⟨0, Nat.zero_le _, rfl, Lib.hid rfl⟩
  case round =>
    obtain ⟨k, hk, rfl, hpre⟩ := hrel
    by_cases hlt : k < n
    · obtain ⟨b, off, i2, o2, ps, A', c', rfl, hp, hps, m0, m1, m2⟩ := Bats.at_ h hlt
      have hk' : (k : Int) < (n : Int) := by omega
      have hk0 : (0 : Int) ≤ (k : Int) := by omega
      clear hps m2
      by_cases ho : i2 = id
      · have hob : (i2 == id) = true := by simpa using ho
        have Ho := Lib.hid ho
        clear ho
        go_wp2
        go_ret
        exact ⟨ret_int (findB_some hp.out Ho.out hpre.out).symm, rfl⟩
      · have hob : (i2 == id) = false := by simpa using ho
        have Ho := Lib.hid ho
        clear ho
        go_wp2
        go_round
        case rel => exact ⟨k + 1, by omega, by go_num, Lib.hid (by rw [take_succ_of hp.out, List.any_append, hpre.out]; simp [Ho.out])⟩
        case measure => simp [intOf]; omega
    · obtain rfl : k = n := by omega
      go_wp2
      go_ret
      exact ⟨ret_int (findB_none (fun b hb e => by
        have := hpre.out
        rw [List.take_of_length_le (by rw [hxl.out]; exact Nat.le_refl _)] at this
        have := List.any_eq_false.1 this b hb
        simp [e] at this)).symm, rfl⟩

attribute [local go_sem] flowAct flowOp_def flowUpon
set_option maxHeartbeats 1000000 in
theorem c_EqualPiles (lo lo' : Nat) (A B : Option Addr) (n cap m cap' : Nat) (xs ys : List Pl) (w : World) (h : Piles w lo A n cap xs) (h' : Piles w lo' B m cap' ys) :
    Calls Try.prog 28 #[.slice A n cap, .slice B m cap'] w fun e w' => e = .returned (.bool (decide (xs = ys))) ∧ w.grownBy w' none := by
  have hlc := h.1
  have hcm := Sl.max h
  have hxl := Lib.hid h.len
  have hlc' := h'.1
  have hcm' := Sl.max h'
  have hyl := Lib.hid h'.len
  by_cases hnm : n = m
  · subst hnm
    go_enter Try.func28, Try.ntmps28
    go_wp2
    go_loopw [13] (fun i wr => ∃ k : Nat, k ≤ n ∧ i = .int .i64 k ∧ w.grownBy wr none ∧ Hid (xs.take k = ys.take k)) (fun i _ => n - (intOf i).toNat)
    case atStart => exact ⟨0, Nat.zero_le _, rfl, gb_refl _ _, Lib.hid rfl⟩
    case round =>
      obtain ⟨k, hk, rfl, hG, hpre⟩ := hrel
      by_cases hlt : k < n
      · obtain ⟨b, off, ⟨s, p⟩, rfl, _, _, hz, m0, m1⟩ := Piles.at_ (Piles.keep0 h hG) hlt
        obtain ⟨b', off', ⟨t, q⟩, rfl, _, _, hz', m0', m1'⟩ := Piles.at_ (Piles.keep0 h' hG) hlt
        have hk' : (k : Int) < (n : Int) := by omega
        have hk0 : (0 : Int) ≤ (k : Int) := by omega
        by_cases hst : s = t ∧ p = q
        · obtain ⟨rfl, rfl⟩ := hst
          have hh1 : (s.toList == s.toList) = true := by simp
          have hh2 : (p == p) = true := by simp
          go_wp2_with fail
          go_quiet (fail)
          go_wp2
          go_roundw
          case rel => exact ⟨k + 1, by omega, by go_num, gb_drewN hG _, Lib.hid (by rw [take_succ_of hz.out, take_succ_of hz'.out, hpre.out])⟩
          case measure => simp [intOf]; omega
        · have Hst := Lib.hid hst
          have hend : Hid (decide (xs = ys) = false) := Lib.hid (decide_eq_false (fun e => Hst.out (by
            subst e
            have := hz.out.symm.trans hz'.out
            injection this with this
            injection this with h1 h2
            exact ⟨h1, h2⟩)))
          by_cases h1 : s = t
          · have h2 : (p == q) = false := beq_eq_false_iff_ne.2 (fun e => hst ⟨h1, e⟩)
            have h3 : (s.toList == t.toList) = true := by rw [h1]; simp
            have H1 := Lib.hid h1
            clear h1 hst
            go_wp2_with fail
            go_quiet (fail)
            go_wp2
            go_ret
            exact ⟨ret_bool hend.out.symm, gb_drewN hG _⟩
          · have h3 : (s.toList == t.toList) = false := str_ne h1
            clear h1 hst
            go_wp2_with fail
            go_quiet (fail)
            go_wp2
            go_ret
            exact ⟨ret_bool hend.out.symm, gb_drewN hG _⟩
      · obtain rfl : k = n := by omega
        go_wp2
        go_ret
        exact ⟨ret_bool (decide_eq_true (by have := hpre.out; rwa [List.take_of_length_le (by rw [hxl.out]; exact Nat.le_refl _), List.take_of_length_le (by rw [hyl.out]; exact Nat.le_refl _)] at this)).symm, hG⟩
  · have hne : ((n : Int) != (m : Int)) = true := by rw [bne_iff_ne]; omega
    go_enter Try.func28, Try.ntmps28
    go_wp2
    go_ret
    exact ⟨ret_bool (decide_eq_false (fun e => hnm (by rw [← hxl.out, ← hyl.out, e]))).symm, gb_refl _ _⟩
end Go.Proofs.Ytdhkhlemdlibfaa
