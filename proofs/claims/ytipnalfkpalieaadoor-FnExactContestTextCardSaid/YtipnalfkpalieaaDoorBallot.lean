/-
  Ballots: l1Has, slices.Index, slices.Contains, BallotValid of the program and of the reference.
-/
import Derived.Test.YtipnalfkpalieaaDoorBase
import Derived.Deep.QuietTactic
import Derived.BigQuiet
namespace Go.Proofs.YtipnalfkpalieaaDoor
open Go.RowKit
set_option linter.unusedVariables false

theorem quiet_add_left {P : Program} {f : FuncId} {args : Array Value} {w : World} {a n : Nat} {v : Value}
    (h : Calls P f args (w.drewN (a + n)) fun e w' => e = .returned v ∧ w.drewN (a + n) = w') :
    Calls P f args (w.drewN (a + n)) fun e w'' => e = .returned v ∧ ∃ m, w'' = w.drewN (a + m) :=
  h.mono fun _ _ ⟨he, hm⟩ => ⟨he, n, hm.symm⟩
theorem quiet_left {P : Program} {f : FuncId} {args : Array Value} {w : World} {n : Nat} {v : Value}
    (h : Calls P f args (w.drewN n) fun e w' => e = .returned v ∧ w.drewN n = w') : Calls P f args (w.drewN n) fun e w'' => e = .returned v ∧ ∃ m, w'' = w.drewN m :=
  h.mono fun _ _ ⟨he, hm⟩ => ⟨he, n, hm.symm⟩

theorem c_l1Has (lo : Nat) (A : Option Addr) (n cap : Nat) (xs : List Int) (x : Int) (w : World) (h : Ints w lo A n cap xs) :
    Calls Tryd.prog 71 #[.slice A n cap, .int .i64 x] w fun e w' => e = .returned (.bool (decide (x ∈ xs))) ∧ w = w' := by
  have hlc := h.le
  have hcm := h.max
  have hxl := Lib.hid h.len
  go_enter Tryd.func71, Tryd.ntmps71
  go_wp2
  go_loop [5] (fun i => ∃ k : Nat, k ≤ n ∧ i = .int .i64 k ∧ Hid (x ∉ xs.take k)) (fun i => n - (intOf i).toNat)
  case atStart => exact ⟨0, Nat.zero_le _, rfl, Lib.hid (by simp)⟩
  case round =>
    obtain ⟨k, hk, rfl, hnot⟩ := hrel
    by_cases hlt : k < n
    · obtain ⟨b, off, z, rfl, hz, hcell⟩ := h.at_ hlt
      by_cases hx : z = x
      · subst hx
        go_wp2
        go_ret
        exact ⟨ret_bool (by simpa using List.mem_of_getElem? hz.out), rfl⟩
      · have hx' : (z == x) = false := by simpa using hx
        go_wp2
        go_round
        case rel => exact ⟨k + 1, by omega, by go_num, Lib.hid (by rw [take_succ_of hz.out]; simp [hnot.out]; exact fun e => hx e.symm)⟩
        case measure => simp [intOf]; omega
    · go_wp2
      go_ret
      exact ⟨ret_bool (by have := hnot.out; rw [List.take_of_length_le (by rw [hxl.out]; omega)] at this; simpa using this), rfl⟩

/-- Where a number stands, or -1. -/
def idx (xs : List Int) (x : Int) : Int := if x ∈ xs then ((xs.idxOf x : Nat) : Int) else -1
theorem idx_at {xs : List Int} {x : Int} {k : Nat} (h : xs[k]? = some x) (hn : x ∉ xs.take k) : idx xs x = k := by
  have hm : x ∈ xs := List.mem_of_getElem? h
  have hk : k < xs.length := (List.getElem?_eq_some_iff.1 h).1
  unfold idx
  rw [if_pos hm]
  congr 1
  have h1 : xs = xs.take k ++ xs.drop k := (List.take_append_drop k xs).symm
  have h2 : xs.drop k = x :: xs.drop (k + 1) := by
    rw [List.drop_eq_getElem_cons hk]
    congr 1
    exact (List.getElem?_eq_some_iff.1 h).2
  rw [h1, h2, List.idxOf_append, if_neg hn]
  simp
  omega
theorem idx_no {xs : List Int} {x : Int} (h : x ∉ xs) : idx xs x = -1 := by unfold idx; rw [if_neg h]
theorem idx_nonneg (xs : List Int) (x : Int) : decide (0 ≤ idx xs x) = decide (x ∈ xs) := by
  unfold idx
  by_cases h : x ∈ xs
  · simp [h]
  · simp [h]

theorem c_Index (lo : Nat) (A : Option Addr) (n cap : Nat) (xs : List Int) (x : Int) (w : World) (h : Ints w lo A n cap xs) :
    Calls Tryd.prog 86 #[.slice A n cap, .int .i64 x] w fun e w' => e = .returned (.int .i64 (idx xs x)) ∧ w = w' := by
  have hlc := h.le
  have hcm := h.max
  have hxl := Lib.hid h.len
  go_enter Tryd.func86, Tryd.ntmps86
  go_wp2
  go_loop [8] (fun i => ∃ k : Nat, k ≤ n ∧ i = .int .i64 k ∧ Hid (x ∉ xs.take k)) (fun i => n - (intOf i).toNat)
  case atStart => exact ⟨0, Nat.zero_le _, rfl, Lib.hid (by simp)⟩
  case round =>
    obtain ⟨k, hk, rfl, hnot⟩ := hrel
    by_cases hlt : k < n
    · obtain ⟨b, off, z, rfl, hz, hcell⟩ := h.at_ hlt
      by_cases hx : z = x
      · subst hx
        go_wp2
        go_ret
        exact ⟨ret_int (idx_at hz.out hnot.out).symm, rfl⟩
      · have hx' : (x == z) = false := by simpa using fun e => hx e.symm
        go_wp2
        go_round
        case rel => exact ⟨k + 1, by omega, by go_num, Lib.hid (by rw [take_succ_of hz.out]; simp [hnot.out]; exact fun e => hx e.symm)⟩
        case measure => simp [intOf]; omega
    · go_wp2
      go_ret
      exact ⟨ret_int (idx_no (by have := hnot.out; rwa [List.take_of_length_le (by rw [hxl.out]; omega)] at this)).symm, rfl⟩

theorem c_Contains (lo : Nat) (A : Option Addr) (n cap : Nat) (xs : List Int) (x : Int) (w : World) (h : Ints w lo A n cap xs) :
    Calls Tryd.prog 68 #[.slice A n cap, .int .i64 x] w fun e w' => e = .returned (.bool (decide (x ∈ xs))) ∧ w = w' := by
  go_enter Tryd.func68, Tryd.ntmps68
  go_wp2_with fail
  refine (c_Index lo A n cap xs x w h).mono ?_
  rintro e w' ⟨rfl, rfl⟩
  go_wp2
  go_ret
  exact ⟨ret_bool (idx_nonneg xs x), rfl⟩

theorem c_isMany (n : Int) (w : World) :
    Calls Tryd.prog 33 #[.int .i64 n] w fun e w' => e = .returned (.bool (inB n 1 5)) ∧ w = w' := by
  by_cases h1 : 1 ≤ n <;> by_cases h2 : n ≤ 5
  all_goals
    go_enter Tryd.func33, Tryd.ntmps33
    go_wp2
    go_ret
    exact ⟨by simp [inB, *], rfl⟩

/-- The first k numbers are candidates, none twice. -/
def vPre (n : Int) (xs : List Int) : Nat → Bool
  | 0 => true
  | k + 1 => vPre n xs k && (match xs[k]? with | some z => inB z 0 (n - 1) && !decide (z ∈ xs.take k) | none => false)
def ballotOK (xs : List Int) (n : Int) : Bool := inB n 1 5 && vPre n xs xs.length
theorem vPre_false {n : Int} {xs : List Int} {k : Nat} (h : vPre n xs k = false) : ∀ {m : Nat}, k ≤ m → vPre n xs m = false
  | 0, hm => by
    obtain rfl : k = 0 := by omega
    exact h
  | m + 1, hm => by
    rcases Nat.lt_or_ge m k with hlt | hge
    · obtain rfl : k = m + 1 := by omega
      exact h
    · simp only [vPre, vPre_false h hge, Bool.false_and]
theorem vPre_step {n : Int} {xs : List Int} {k : Nat} {z : Int} (h : xs[k]? = some z) : vPre n xs (k + 1) = (vPre n xs k && (inB z 0 (n - 1) && !decide (z ∈ xs.take k))) := by
  simp only [vPre, h]

theorem ballot_bad {xs : List Int} {m z : Int} {k : Nat} (h : xs[k]? = some z) (hb : (inB z 0 (m - 1) && !decide (z ∈ xs.take k)) = false) : ballotOK xs m = false := by
  have hk : k < xs.length := (List.getElem?_eq_some_iff.1 h).1
  have : vPre m xs (k + 1) = false := by rw [vPre_step h, hb, Bool.and_false]
  unfold ballotOK
  rw [vPre_false this (by omega), Bool.and_false]
theorem ballot_bad' {xs : List Int} {m q z : Int} {k : Nat} (hq : 1 ≤ m ∧ m ≤ 5 → q = m - 1) (h : xs[k]? = some z) (hb : (inB z 0 q && !decide (z ∈ xs.take k)) = false) : ballotOK xs m = false := by
  cases hm : inB m 1 5 with
  | false => unfold ballotOK; rw [hm]; rfl
  | true =>
    have := hq (by simpa [inB] using hm)
    subst this
    exact ballot_bad h hb
theorem take_rd {w : World} {lo k n cap : Nat} {A : Option Addr} {xs : List Int} (h : Ints w lo A n cap xs) (hk : k ≤ n) : Ints w lo A k cap (xs.take k) := by
  refine ⟨Nat.le_trans hk h.1, h.2.1, ?_⟩
  have := h.2.2.take hk
  rw [Nat.mul_one, ← List.map_take] at this
  exact this

theorem c_impl_BallotValid (lo : Nat) (A : Option Addr) (n cap : Nat) (xs : List Int) (m : Int) (w : World) (h : Ints w lo A n cap xs) :
    Calls Tryd.prog 42 #[.slice A n cap, .int .i64 m] w fun e w' => e = .returned (.bool (ballotOK xs m)) ∧ w = w' := by
  have hlc := h.le
  have hcm := h.max
  have hxl := Lib.hid h.len
  by_cases hm : inB m 1 5 = true
  · have hmm : 1 ≤ m ∧ m ≤ 5 := by simpa [inB] using hm
    obtain ⟨hm1, hm2⟩ := hmm
    have Hm := Lib.hid hm
    go_enter Tryd.func42, Tryd.ntmps42
    go_wp2_with fail
    refine (c_isMany _ _).mono ?_
    rintro e w' ⟨rfl, rfl⟩
    go_wp2
    clear hm
    go_loop [12] (fun i => ∃ k : Nat, k ≤ n ∧ i = .int .i64 k ∧ Hid (vPre m xs k = true)) (fun i => n - (intOf i).toNat)
    case atStart => exact ⟨0, Nat.zero_le _, rfl, Lib.hid rfl⟩
    case round =>
      obtain ⟨k, hk, rfl, hpre⟩ := hrel
      by_cases hlt : k < n
      · obtain ⟨b, off, z, rfl, hz, hcell⟩ := h.at_ hlt
        go_wp2_with fail
        · refine (c_Contains lo _ _ _ (xs.take k) z w (take_rd h (by omega))).mono ?_
          rintro e w' ⟨rfl, rfl⟩
          by_cases hin : z ∈ xs.take k
          · have hd : decide (z ∈ xs.take k) = true := by simpa using hin
            clear hin
            go_wp2
            go_ret
            exact ⟨ret_bool (ballot_bad hz.out (by rw [hd]; simp)).symm, rfl⟩
          · have hd : decide (z ∈ xs.take k) = false := by simpa using hin
            clear hin
            have Hd := Lib.hid hd
            go_wp2
            go_round
            case rel => exact ⟨k + 1, by omega, by go_num, Lib.hid (by rw [vPre_step hz.out, hpre.out, Hd.out, show inB z 0 (m - 1) = true from by simp [inB]; omega]; rfl)⟩
            case measure => simp [intOf]; omega
        · go_ret
          exact ⟨ret_bool (ballot_bad hz.out (by rw [show inB z 0 (m - 1) = false from by simp [inB]; omega]; rfl)).symm, rfl⟩
        · go_ret
          exact ⟨ret_bool (ballot_bad hz.out (by rw [show inB z 0 (m - 1) = false from by simp [inB]; omega]; rfl)).symm, rfl⟩
      · go_wp2
        go_ret
        exact ⟨ret_bool (by unfold ballotOK; rw [Hm.out, hxl.out, show n = k from by omega, hpre.out]; rfl), rfl⟩
  · have hm' : inB m 1 5 = false := by simpa using hm
    go_enter Tryd.func42, Tryd.ntmps42
    go_wp2_with fail
    refine (c_isMany _ _).mono ?_
    rintro e w' ⟨rfl, rfl⟩
    go_wp2
    go_ret
    exact ⟨ret_bool (by unfold ballotOK; rw [hm']; rfl), rfl⟩

theorem c_spec_BallotValid (lo : Nat) (A : Option Addr) (n cap : Nat) (xs : List Int) (m : Int) (w : World) (h : Ints w lo A n cap xs) :
    Calls Tryd.prog 45 #[.slice A n cap, .int .i64 m] w fun e w' => e = .returned (.bool (ballotOK xs m)) ∧ ∃ d, w' = w.drewN d := by
  have hlc := h.le
  have hcm := h.max
  have hxl := Lib.hid h.len
  obtain ⟨q, hq⟩ : ∃ q, IntKind.i64.wrap (m - 1) = q := ⟨_, rfl⟩
  have Hq : Hid (1 ≤ m ∧ m ≤ 5 → q = m - 1) := Lib.hid (by rintro ⟨h1, h2⟩; rw [← hq]; exact IntWalk.i64_in _ (by omega))
  go_enter Tryd.func45, Tryd.ntmps45
  go_wp2
  go_loopw [5] (fun i wr => ∃ k d : Nat, k ≤ n ∧ i = .int .i64 k ∧ wr = w.drewN d ∧ Hid (1 ≤ m ∧ m ≤ 5 → vPre m xs k = true)) (fun i _ => n - (intOf i).toNat)
  case atStart => exact ⟨0, 0, Nat.zero_le _, rfl, rfl, Lib.hid (fun _ => rfl)⟩
  case round =>
    obtain ⟨k, d, hk, rfl, rfl, hpre⟩ := hrel
    by_cases hlt : k < n
    · obtain ⟨b, off, z, rfl, hz, hcell⟩ := h.at_ hlt
      have hk' : (k : Int) < (n : Int) := by omega
      have hkc : (k : Int) ≤ (cap : Int) := by omega
      by_cases h1 : inB z 0 q = true
      · by_cases hin : z ∈ xs.take k
        · have hd : decide (z ∈ xs.take k) = true := by simpa using hin
          have Hd := Lib.hid hd
          clear hin
          go_wp2
          go_quiet ((first | (go_at_call 44; exact quiet_add_left (c_l6In _ _ _ _)) | (go_at_call 71; exact quiet_add_left (c_l1Has lo _ _ _ (xs.take k) z _ (take_rd h (by omega))))))
          go_wp2
          go_ret
          exact ⟨ret_bool (ballot_bad' Hq.out hz.out (by rw [Hd.out]; simp)).symm, _, World.drewN_drewN _ _ _⟩
        · have hd : decide (z ∈ xs.take k) = false := by simpa using hin
          have Hd := Lib.hid hd
          clear hin
          go_wp2
          go_quiet ((first | (go_at_call 44; exact quiet_add_left (c_l6In _ _ _ _)) | (go_at_call 71; exact quiet_add_left (c_l1Has lo _ _ _ (xs.take k) z _ (take_rd h (by omega))))))
          have H1 := Lib.hid h1
          clear h1 hd hq
          go_wp2
          go_roundw
          case rel => exact ⟨k + 1, _, by omega, by go_num, rfl, Lib.hid (fun hm => by rw [vPre_step hz.out, hpre.out hm, Hd.out, ← Hq.out hm, H1.out]; rfl)⟩
          case measure => simp [intOf]; omega
      · have h1' : inB z 0 q = false := by simpa using h1
        have H1 := Lib.hid h1'
        clear h1
        go_wp2
        go_quiet ((first | (go_at_call 44; exact quiet_add_left (c_l6In _ _ _ _))))
        go_wp2
        go_ret
        exact ⟨ret_bool (ballot_bad' Hq.out hz.out (by rw [H1.out]; rfl)).symm, _, World.drewN_drewN _ _ _⟩
    · go_wp2_with (go_at_call 44; refine (c_l6In _ _ _ _).mono ?_; rintro e w' ⟨rfl, rfl⟩)
      go_ret
      refine ⟨ret_bool ?_, _, rfl⟩
      unfold ballotOK
      rw [hxl.out, show n = k from by omega]
      cases hb : inB m 1 5 with
      | false => rfl
      | true => rw [hpre.out (by simpa [inB] using hb)]; rfl
end Go.Proofs.YtipnalfkpalieaaDoor
