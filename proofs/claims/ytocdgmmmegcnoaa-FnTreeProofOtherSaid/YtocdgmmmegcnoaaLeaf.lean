/-
  LeafSum of the reference and of the program.
-/
import Derived.Test.YtocdgmmmegcnoaaParse
namespace Go.Proofs.Ytocdgmmmegcnoaa
open Go.RowKit
set_option linter.unusedVariables false

def leafStep (n : Int) (u : UInt8) : Int := (31 * n + (u.toNat : Int)) % 9973
def leafTo (n0 : Int) (s : ByteArray) (k : Nat) : Int := (s.data.toList.take k).foldl leafStep n0
def leafOK (number : Int) (s : ByteArray) : Bool := ballotOK (ballotOf s) 5 && inB number 0 7
def leafSum (number : Int) (s : ByteArray) : Int := if leafOK number s then leafTo (7 + number) s s.size else -1

theorem leafTo_succ (n0 : Int) (s : ByteArray) (k : Nat) (h : k < s.size) : leafTo n0 s (k + 1) = (31 * leafTo n0 s k + (s[k].toNat : Int)) % 9973 := by
  unfold leafTo
  have hk : s.data.toList[k]? = some s[k] := by
    rw [List.getElem?_eq_getElem (by simpa using h)]
    rfl
  rw [take_succ_of hk, List.foldl_append]
  rfl
theorem leafTo_bd (n0 : Int) (s : ByteArray) (h0 : 0 ≤ n0) (h1 : n0 ≤ 9973) : ∀ k, k ≤ s.size → 0 ≤ leafTo n0 s k ∧ leafTo n0 s k ≤ 9973
  | 0, _ => by simpa [leafTo] using ⟨h0, h1⟩
  | k + 1, h => by
    rw [leafTo_succ n0 s k (by omega)]
    omega

set_option maxHeartbeats 400000 in
theorem c_spec_LeafSum (number : Int) (s : ByteArray) (w : World) (hs : s.size ≤ 2000000) :
    Calls Try.prog 19 #[.int .i64 number, .string s] w fun e w' => e = .returned (.int .i64 (leafSum number s)) ∧ w.grownBy w' none := by
  by_cases hok : ballotOK (ballotOf s) 5 = true
  · have Hok := Lib.hid hok
    by_cases hin : inB number 0 7 = true
    · have Hin := Lib.hid hin
      have hn : 0 ≤ number ∧ number ≤ 7 := by simpa [inB] using hin
      obtain ⟨hn0, hn7⟩ := hn
      go_enter Try.func19, Try.ntmps19
      go_wp2_with fail
      refine (c_spec_BallotParse _ _ hs).mono ?_
      rintro e w1 ⟨A, c, rfl, hg, _⟩
      go_wp2_with fail
      refine (c_l6In _ _ _ _).mono ?_
      rintro e w' ⟨rfl, rfl⟩
      go_wp2
      clear hok hin
      go_loop [7, 8] (fun n i => ∃ k : Nat, k ≤ s.size ∧ i = .int .i64 k ∧ n = .int .i64 (leafTo (7 + number) s k)) (fun _ i => s.size - (intOf i).toNat)
      case atStart => exact ⟨0, Nat.zero_le _, rfl, rfl⟩
      case round =>
        obtain ⟨k, hk, rfl, rfl⟩ := hrel
        obtain ⟨hb0, hb1⟩ := leafTo_bd (7 + number) s (by omega) (by omega) k hk
        by_cases hlt : k < s.size
        · have hstep := Lib.hid (leafTo_succ (7 + number) s k hlt)
          have hu : s[k].toNat < 256 := UInt8.toNat_lt _
          go_wp2
          go_round
          case rel => exact ⟨k + 1, by omega, by go_num, by rw [hstep.out]⟩
          case measure => simp [intOf]; omega
        · obtain rfl : k = s.size := by omega
          go_wp2
          go_ret
          exact ⟨ret_int (by unfold leafSum leafOK; rw [Hok.out, Hin.out]; rfl), hg⟩
    · have hin' : inB number 0 7 = false := by simpa using hin
      clear hin
      have Hin := Lib.hid hin'
      go_enter Try.func19, Try.ntmps19
      go_wp2_with fail
      refine (c_spec_BallotParse _ _ hs).mono ?_
      rintro e w1 ⟨A, c, rfl, hg, _⟩
      go_wp2_with fail
      refine (c_l6In _ _ _ _).mono ?_
      rintro e w' ⟨rfl, rfl⟩
      go_wp2
      go_ret
      exact ⟨ret_int (by unfold leafSum leafOK; rw [Hin.out, Bool.and_false]; rfl), hg⟩
  · have hok' : ballotOK (ballotOf s) 5 = false := by simpa using hok
    clear hok
    have Hok := Lib.hid hok'
    go_enter Try.func19, Try.ntmps19
    go_wp2_with fail
    refine (c_spec_BallotParse _ _ hs).mono ?_
    rintro e w1 ⟨A, c, rfl, hg, _⟩
    go_wp2
    go_ret
    exact ⟨ret_int (by unfold leafSum leafOK; rw [Hok.out]; rfl), hg⟩

set_option maxHeartbeats 400000 in
theorem c_impl_LeafSum (number : Int) (s : ByteArray) (w : World) (hs : s.size ≤ 2000000) :
    Calls Try.prog 20 #[.int .i64 number, .string s] w fun e w' => e = .returned (.int .i64 (leafSum number s)) ∧ w.grownBy w' none := by
  by_cases hok : ballotOK (ballotOf s) 5 = true
  · have Hok := Lib.hid hok
    by_cases hn : 0 ≤ number ∧ number ≤ 7
    · obtain ⟨hn0, hn7⟩ := hn
      go_enter Try.func20, Try.ntmps20
      go_wp2_with fail
      refine (c_impl_BallotParse _ _ hs).mono ?_
      rintro e w1 ⟨A, c, rfl, hg, _⟩
      go_wp2
      clear hok
      go_loop [7, 28] (fun n i => ∃ k : Nat, k ≤ s.size ∧ i = .int .i64 k ∧ n = .int .i64 (leafTo (7 + number) s k)) (fun _ i => s.size - (intOf i).toNat)
      case atStart => exact ⟨0, Nat.zero_le _, rfl, rfl⟩
      case round =>
        obtain ⟨k, hk, rfl, rfl⟩ := hrel
        obtain ⟨hb0, hb1⟩ := leafTo_bd (7 + number) s (by omega) (by omega) k hk
        by_cases hlt : k < s.size
        · have hstep := Lib.hid (leafTo_succ (7 + number) s k hlt)
          have hu : s[k].toNat < 256 := UInt8.toNat_lt _
          go_wp2
          go_round
          case rel => exact ⟨k + 1, by omega, by go_num, by rw [hstep.out]⟩
          case measure => simp [intOf]; omega
        · obtain rfl : k = s.size := by omega
          go_wp2
          go_ret
          exact ⟨ret_int (by unfold leafSum leafOK; rw [Hok.out, show inB number 0 7 = true from by simp [inB]; omega]; rfl), hg⟩
    · have Hin : Hid (inB number 0 7 = false) := Lib.hid (by simp [inB]; omega)
      go_enter Try.func20, Try.ntmps20
      go_wp2_with fail
      refine (c_impl_BallotParse _ _ hs).mono ?_
      rintro e w1 ⟨A, c, rfl, hg, _⟩
      go_wp2
      all_goals
        go_ret
        exact ⟨ret_int (by unfold leafSum leafOK; rw [Hin.out, Bool.and_false]; rfl), hg⟩
  · have hok' : ballotOK (ballotOf s) 5 = false := by simpa using hok
    clear hok
    have Hok := Lib.hid hok'
    go_enter Try.func20, Try.ntmps20
    go_wp2_with fail
    refine (c_impl_BallotParse _ _ hs).mono ?_
    rintro e w1 ⟨A, c, rfl, hg, _⟩
    go_wp2
    go_ret
    exact ⟨ret_int (by unfold leafSum leafOK; rw [Hok.out]; rfl), hg⟩
end Go.Proofs.Ytocdgmmmegcnoaa
