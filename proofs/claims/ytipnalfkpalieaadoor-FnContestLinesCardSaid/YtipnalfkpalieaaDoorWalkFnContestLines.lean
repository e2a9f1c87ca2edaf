/-
  The walk of the law FnContestLines: a report has a line for each round, or each candidate.
-/
import Derived.Test.YtipnalfkpalieaaDoorDrawCon
import Derived.Test.YtipnalfkpalieaaDoorDoorB
import Derived.Test.YtipnalfkpalieaaDoorArgs
namespace Go.Proofs.YtipnalfkpalieaaDoor.lawFnContestLines
open Go.RowKit
set_option linter.unusedVariables false

theorem c_DrawContestText (A0 : Option Addr) (len cap : Nat) (w : World) (h : CodeArg w A0 len cap) :
    Calls Tryd.prog 11 #[.slice A0 len cap] w (ConGot w) := by
  go_enter Tryd.func11, Tryd.ntmps11
  go_wp2_with fail
  refine (c_DrawContestWinner A0 len cap w h).mono ?_
  rintro e w1 ⟨A, N, c, ps, n, m, s, rfl, hP, hsm, hn0, hn6, hg⟩
  go_wp2
  try simp only [Exit.inBlock, Exit.then]
  refine bodyPost_ret (results_tmp4 rfl _ _ _) rfl ?_
  exact ⟨A, N, c, ps, n, m, s, rfl, hP, hsm, hn0, hn6, hg⟩

/-- The line ends among the first bytes of a text. -/
def nlTo (t : ByteArray) (k : Nat) : Nat := (t.data.toList.take k).count 10
theorem nlTo_all (t : ByteArray) : nlTo t t.size = nls t := by
  unfold nlTo nls
  rw [List.take_of_length_le (by rw [Array.length_toList]; exact Nat.le_refl _)]
theorem nlTo_at {t : ByteArray} {k : Nat} (h : k < t.size) : t.data.toList[k]? = some t[k] := by
  rw [List.getElem?_eq_getElem (by simpa using h)]
  rfl
theorem nlTo_yes {t : ByteArray} {k : Nat} (h : k < t.size) (hb : (t[k].toNat : Int) = 10) : nlTo t (k + 1) = nlTo t k + 1 := by
  have hu : t[k] = 10 := UInt8.toNat_inj.1 (by have : (10 : UInt8).toNat = 10 := rfl; omega)
  unfold nlTo
  rw [take_succ_of (nlTo_at h), List.count_append, hu]
  rfl
theorem nlTo_no {t : ByteArray} {k : Nat} (h : k < t.size) (hb : ¬ (t[k].toNat : Int) = 10) : nlTo t (k + 1) = nlTo t k := by
  have hu : t[k] ≠ 10 := fun e => hb (by rw [e]; rfl)
  unfold nlTo
  have h1 : [t[k]].count 10 = 0 := List.count_eq_zero.2 (by simpa using hu.symm)
  rw [take_succ_of (nlTo_at h), List.count_append, h1]
  rfl
theorem nlTo_le (t : ByteArray) (k : Nat) : nlTo t k ≤ k := by
  unfold nlTo
  exact Nat.le_trans List.count_le_length (by rw [List.length_take]; omega)

theorem loop_len (t : ByteArray) : ∀ (k i : Nat) (r : List UInt8), t.size - i = k → (ByteArray.toList.loop t i r).length = r.length + k
  | 0, i, r, h => by
    rw [ByteArray.toList.loop, if_neg (by omega)]
    simp
  | k + 1, i, r, h => by
    rw [ByteArray.toList.loop, if_pos (by omega), loop_len t k (i + 1) _ (by omega), List.length_cons]
    omega
theorem toList_ne {t : ByteArray} (h : 0 < t.size) : t.toList.isEmpty = false := by
  have h1 := loop_len t (t.size - 0) 0 [] rfl
  cases hl : t.toList with
  | nil =>
    unfold ByteArray.toList at hl
    rw [hl] at h1
    simp at h1
    omega
  | cons a l => rfl

set_option maxHeartbeats 4000000 in
set_option maxRecDepth 100000 in
theorem walk (a0 : Option Addr) (len0 cap0 : Nat) (w : World) (hT : Tab w) (c0 : CodeArg w a0 len0 cap0) :
    Calls Tryd.prog 4 #[.slice a0 len0 cap0] w fun e w' => e = .returned (.bool true) ∧ Below w.heap.size w w' := by
  have HT := Lib.hid hT
  clear hT
  by_cases h0 : 1048576 < len0
  · go_enter Tryd.func4, Tryd.ntmps4
    go_wp2
    go_ret
    exact ⟨rfl, Below.refl _ _⟩
  go_enter Tryd.func4, Tryd.ntmps4
  go_wp2_with fail
  refine (c_DrawContestText _ _ _ _ c0).mono ?_
  rintro e w1 ⟨A, NP, c, ps, n, m, s, rfl, hP, hsm, hn0, hn6, hg1⟩
  have Hs : Hid (∀ p ∈ ps, p.1.size ≤ 2000000) := Lib.hid (fun p hp => by have := hsm.2 p hp; omega)
  have hct := Lib.hid (show conOK ps n m s = true → _ from conText_nls (ps := ps) (n := n) (m := m) (s := s))
  have hcx := Lib.hid (show conOK ps n m s = true → _ from conText_yes (ps := ps) (n := n) (m := m) (s := s))
  obtain ⟨T, hT⟩ : ∃ V, conText ps n m s = V := ⟨_, rfl⟩
  have HTx := Lib.hid hT
  clear hT hsm c0
  go_wp2_with fail
  refine (c_impl_ContestText _ A NP c ps n m s _ hP Hs.out (HT.out.grown hg1)).mono ?_
  rintro e w2 ⟨rfl, hg2⟩
  rw [HTx.out]
  have hP2 := Piles.keep0 hP hg2
  have hG2 := gb_trans hg1 hg2
  go_wp2_with fail
  refine (c_spec_ContestText _ A NP c ps n m s _ hP2 Hs.out).mono ?_
  rintro e w3 ⟨rfl, hg3⟩
  rw [HTx.out]
  have hP3 := Piles.keep0 hP2 hg3
  have hG3 := gb_trans hG2 hg3
  clear hP hP2 hg1 hG2 hg2 hg3
  by_cases hok : conOK ps n m s = true
  · have hnl := hct.out hok
    have hne : T.toList.isEmpty = false := toList_ne (by
      have h1 := nlTo_le T T.size
      rw [nlTo_all, ← HTx.out, hnl, HTx.out] at h1
      split at h1
      · omega
      · split at h1 <;> omega)
    have hTs : T.size ≤ 10000 := by
      have hh := conOK_iff.1 hok
      have hms := midText_size (lots := lotsOf n.toNat s.toNat) m (show fitOK ps ((n.toNat : Nat) : Int) = true by rw [Int.toNat_of_nonneg hn0]; exact hh.1) (lotsOf_len _ _)
      have hN5 := (fit_many hh.1).2.2
      have hhs := headText_size ps (lotsOf n.toNat s.toNat) (by have := sum_bounds hh.1; omega) (by rw [lotsOf_len]; omega)
      have hbv := ballotText_size [cWin ps n m s] (by simp)
      have l3 : (⟨#[10]⟩ : ByteArray).size = 1 := rfl
      have l4 : (⟨#[119, 105, 110, 110, 101, 114, 32]⟩ : ByteArray).size = 7 := rfl
      rw [← HTx.out, hcx.out hok]
      unfold endText
      rw [ByteArray.size_append, ByteArray.size_append, ByteArray.size_append, ByteArray.size_append, l3, l4]
      omega
    have hh := conOK_iff.1 hok
    have hN := (fit_many hh.1).2.2
    obtain ⟨N, rfl⟩ : ∃ N : Nat, n = (N : Int) := ⟨n.toNat, by omega⟩
    obtain ⟨S, rfl⟩ : ∃ S : Nat, s = (S : Int) := ⟨s.toNat, by omega⟩
    have hN1 : 1 ≤ N := by omega
    have hN5 : N ≤ 5 := by omega
    have hS9 : S ≤ 999 := by omega
    rw [HTx.out, Int.toNat_natCast, Int.toNat_natCast] at hnl
    have hL : lotsOK (N : Int) (S : Int) = true := (lotsOK_iff _ _).2 ⟨by omega, by omega⟩
    have hres : lotsRes (N : Int) (S : Int) = lotsOf N S := by unfold lotsRes; rw [hL, if_pos rfl, Int.toNat_natCast, Int.toNat_natCast]
    have hcl : Hid (∀ x : World, _) := Lib.hid (fun x => c_impl_LotsOf (N : Int) (S : Int) x)
    rw [hL, hres] at hcl
    have Hp := Lib.hid (lotsOf_perm N S)
    have hll := lotsOf_len N S
    have Hll := Lib.hid hll
    have hrl := rounds_len (ps := ps) hll
    have Hfit := Lib.hid hh.1
    have hm3 := hh.2.1
    have Hnl := Lib.hid hnl
    clear hnl hL hres hll hh hN hok hct hcx hn0 hn6
    go_wp2
    go_loopw [9, 10] (fun v i wr => ∃ k : Nat, k ≤ T.size ∧ i = .int .i64 k ∧ v = .int .i64 (nlTo T k : Int) ∧ wr = w3) (fun _ i _ => T.size - (intOf i).toNat)
    case atStart => exact ⟨0, Nat.zero_le _, rfl, rfl, rfl⟩
    case round =>
      obtain ⟨k, hk, rfl, rfl, rfl⟩ := hrel
      have hnk := nlTo_le T k
      by_cases hlt : k < T.size
      · have hk' : (k : Int) < (T.size : Int) := by omega
        have hk0 : (0 : Int) ≤ (k : Int) := by omega
        by_cases hb : (T[k].toNat : Int) = 10
        · have hst := Lib.hid (nlTo_yes hlt hb)
          obtain ⟨L, hL⟩ : ∃ L, nlTo T k = L := ⟨_, rfl⟩
          rw [hL] at hst hnk ⊢
          go_wp2
          go_roundw
          case rel => exact ⟨k + 1, by omega, by go_num, by rw [hst.out]; go_num, by first | rfl | trivial⟩
          case measure => simp [intOf]; omega
        · have hst := Lib.hid (nlTo_no hlt hb)
          obtain ⟨L, hL⟩ : ∃ L, nlTo T k = L := ⟨_, rfl⟩
          rw [hL] at hst hnk ⊢
          go_wp2
          go_roundw
          case rel => exact ⟨k + 1, by omega, by go_num, by rw [hst.out], by first | rfl | trivial⟩
          case measure => simp [intOf]; omega
      · obtain rfl : k = T.size := by omega
        rw [nlTo_all] at hnk ⊢
        obtain ⟨Y, hY⟩ : ∃ Y, nls T = Y := ⟨_, rfl⟩
        have HY := Lib.hid hY
        rw [hY] at hnk ⊢
        clear hlt hk hY
        go_wp2_with fail
        refine (hcl.out _).mono ?_
        rintro e w4 ⟨D, k, cD, rfl, hg4, hD⟩
        obtain rfl : k = N := by have := hD.1; simp [Hll.out] at this; exact this.symm
        have hI4 : Ints w4 _ D k cD (lotsOf k S) := Sl.own hD
        have hP4 := Piles.keep0 hP3 hg4
        have hG4 := gb_trans hG3 hg4
        clear hD hP3 hG3 hg4
        go_wp2_with fail
        refine (c_RunoffRounds _ _ A D NP c k cD ps (lotsOf k S) _ hP4 hI4 Hs.out Hfit.out Hp.out).mono ?_
        rintro e w5 ⟨R, r, cR, hd, rfl, hg5, hO⟩
        have hrx := hO.xlen
        have Hrx := Lib.hid hrx
        rw [hrx] at hrl
        have hG5 := gb_trans hG4 hg5
        clear hO hrx
        by_cases h1 : m = 1
        · subst h1
          obtain rfl : Y = 3 := by rw [← HY.out, Hnl.out]; rfl
          go_wp2
          go_ret
          exact ⟨rfl, gb_below hG5⟩
        by_cases h2 : m = 2
        · subst h2
          obtain rfl : Y = r + 2 := by rw [← HY.out, Hnl.out, Hrx.out]; rfl
          go_wp2
          go_ret
          exact ⟨rfl, gb_below hG5⟩
        · obtain rfl : m = 3 := by omega
          obtain rfl : Y = k + 2 := by rw [← HY.out, Hnl.out]; rfl
          go_wp2
          go_ret
          exact ⟨rfl, gb_below hG5⟩
  · have hno : conOK ps n m s = false := by simpa using hok
    obtain rfl : T = ⟨#[]⟩ := by rw [← HTx.out, conText_no hno]
    clear hok hct hcx
    go_wp2
    go_ret
    exact ⟨rfl, gb_below hG3⟩
end Go.Proofs.YtipnalfkpalieaaDoor.lawFnContestLines
