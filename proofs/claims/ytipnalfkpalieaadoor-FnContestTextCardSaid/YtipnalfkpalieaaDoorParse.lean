/-
  BallotParse of the reference and of the program: the ballot of a text.
-/
import Derived.Test.YtipnalfkpalieaaDoorBallot
import Derived.Test.YtipnalfkpalieaaDoorApp
namespace Go.Proofs.YtipnalfkpalieaaDoor
open Go.RowKit
set_option linter.unusedVariables false

theorem intInfo : (Tryd.prog.info? 3).map (fun i => (i.zero, i.size, i.bytes)) = some (some (.int .i64 0), 1, 8) := by kernel_rfl
theorem intE : Elem Tryd.prog 32 3 1 8 (.int .i64 0) := ⟨Tryd.underlying32, info_parts intInfo, rfl, by omega⟩

def ballotOf (s : ByteArray) : List Int := s.data.toList.map fun u => (u.toNat : Int) - 97
theorem ballotOf_len (s : ByteArray) : (ballotOf s).length = s.size := by simp [ballotOf]
theorem ballotOf_at (s : ByteArray) (k : Nat) (h : k < s.size) : (ballotOf s)[k]? = some ((s[k].toNat : Int) - 97) := by
  unfold ballotOf
  rw [List.getElem?_map, List.getElem?_eq_getElem (by simpa using h)]
  rfl

/-- What a parse leaves. -/
def ParseRes (s : ByteArray) (w : World) (e : Ending) (w' : World) : Prop :=
  ∃ A c, e = .returned (.tuple #[.slice A (if ballotOK (ballotOf s) 5 then s.size else 0) c, .bool (ballotOK (ballotOf s) 5)]) ∧ w.grownBy w' none ∧
    w'.ownsRow w.heap.size 3 1 (.slice A (if ballotOK (ballotOf s) 5 then s.size else 0) c) (if ballotOK (ballotOf s) 5 then s.size else 0) ((if ballotOK (ballotOf s) 5 then ballotOf s else []).map (Value.int .i64))

theorem ParseRes.ok {s : ByteArray} {w w' : World} (h : ballotOK (ballotOf s) 5 = true) {A : Option Addr} {c : Nat} (hg : w.grownBy w' none)
    (ho : w'.ownsRow w.heap.size 3 1 (.slice A s.size c) s.size ((ballotOf s).map (Value.int .i64))) : ParseRes s w (.returned (.tuple #[.slice A s.size c, .bool true])) w' := by
  refine ⟨A, c, ?_, hg, ?_⟩ <;> simp only [h, if_true]
  exact ho
theorem ParseRes.no {s : ByteArray} {w w' : World} (h : ballotOK (ballotOf s) 5 = false) {A : Option Addr} {c : Nat} (hg : w.grownBy w' none)
    (ho : w'.ownsRow w.heap.size 3 1 (.slice A 0 c) 0 []) : ParseRes s w (.returned (.tuple #[.slice A 0 c, .bool false])) w' := by
  refine ⟨A, c, ?_, hg, ?_⟩ <;> simp only [h, Bool.false_eq_true, if_false]
  exact ho

set_option maxHeartbeats 400000 in
theorem c_spec_BallotParse (s : ByteArray) (w : World) (hs : s.size ≤ 2000000) :
    Calls Tryd.prog 69 #[.string s] w (ParseRes s w) := by
  go_enter Tryd.func69, Tryd.ntmps69
  go_wp2
  go_loopw [4, 5] (fun v i wr => ∃ (k : Nat) (A : Option Addr) (c : Nat), k ≤ s.size ∧ i = .int .i64 k ∧ v = .slice A k c ∧ wr.ownsRow w.heap.size 3 1 (.slice A k c) k (((ballotOf s).take k).map (Value.int .i64)) ∧ Below w.heap.size w wr) (fun _ i _ => s.size - (intOf i).toNat)
  case atStart => exact ⟨0, _, _, Nat.zero_le _, rfl, rfl, own_empty _ _ _ _ (Nat.le_refl _), (Below.refl _ _).alloc (Nat.le_refl _) _⟩
  case round =>
    obtain ⟨k, A, c, hk, rfl, rfl, hown, hb⟩ := hrel
    by_cases hlt : k < s.size
    · have hz := Lib.hid (ballotOf_at s k hlt)
      have hbs := hb.size
      have hu : s[k].toNat < 256 := UInt8.toNat_lt _
      go_wp2_with (at_builtin; refine wpList_app intE rfl _ _ rfl w.heap.size k _ _ rfl hown [_] rfl rfl (by simp [Value.oneCell']) (by omega) (by omega) hbs ?_; intro A' c' w1 hown1 hb1 hg1 hat1)
      go_roundw
      case rel => exact ⟨k + 1, A', c', by omega, by go_num, rfl, by rw [take_succ_of hz.out, List.map_append]; exact hown1, hb.trans hb1⟩
      case measure => simp [intOf]; omega
    · obtain rfl : k = s.size := by omega
      have hI : Ints wr w.heap.size A s.size c (ballotOf s) := by
        have := Sl.own hown
        rwa [List.take_of_length_le (by rw [ballotOf_len]; omega)] at this
      rw [List.take_of_length_le (by rw [ballotOf_len]; omega)] at hown
      by_cases hok : ballotOK (ballotOf s) 5 = true
      · go_wp2_with fail
        refine (c_spec_BallotValid w.heap.size A s.size c (ballotOf s) _ wr hI).mono ?_
        rintro e w1 ⟨rfl, d, rfl⟩
        go_wp2
        go_ret2
        exact ParseRes.ok hok (gb_of_below (below_drewN hb d) none) (own_drewN hown d)
      · have hok' : ballotOK (ballotOf s) 5 = false := by simpa using hok
        clear hok
        go_wp2_with fail
        refine (c_spec_BallotValid w.heap.size A s.size c (ballotOf s) _ wr hI).mono ?_
        rintro e w1 ⟨rfl, d, rfl⟩
        go_wp2
        go_ret2
        exact ParseRes.no hok' (gb_of_below ((below_drewN hb d).alloc hb.size _) none) (own_empty (wr.drewN d) _ _ _ hb.size)

theorem erase_bound : ∀ (m : Nat) (xs : List Int), xs.Nodup → (∀ z ∈ xs, 0 ≤ z ∧ z < (m : Int)) → xs.length ≤ m
  | 0, xs, _, h => by
    cases xs with
    | nil => simp
    | cons x xs => have := h x (by simp); omega
  | m + 1, xs, hn, h => by
    have h1 : (xs.erase (m : Int)).length ≤ m := erase_bound m _ (hn.erase _) (fun z hz => by
      rw [hn.mem_erase_iff] at hz
      have := h z hz.2
      omega)
    have h2 := List.length_erase (a := (m : Int)) (l := xs)
    split at h2 <;> omega

theorem vPre_iff (n : Int) (xs : List Int) : ∀ k, k ≤ xs.length → (vPre n xs k = true ↔ (xs.take k).Nodup ∧ ∀ z ∈ xs.take k, 0 ≤ z ∧ z < n)
  | 0, _ => by simp [vPre]
  | k + 1, hk => by
    have hz : xs[k]? = some xs[k] := List.getElem?_eq_getElem (by omega)
    rw [vPre_step hz, take_succ_of hz, Bool.and_eq_true, vPre_iff n xs k (by omega), List.nodup_append]
    simp only [Bool.and_eq_true, Bool.not_eq_true', decide_eq_false_iff_not, inB, decide_eq_true_eq, List.mem_append, List.mem_singleton]
    constructor
    · rintro ⟨⟨h1, h2⟩, ⟨h3, h4⟩, h5⟩
      refine ⟨⟨h1, by simp, ?_⟩, ?_⟩
      · rintro a ha b rfl e
        subst e
        exact h5 ha
      · rintro z (hz | rfl)
        · exact h2 z hz
        · omega
    · rintro ⟨⟨h1, _, h3⟩, h4⟩
      refine ⟨⟨h1, fun z hz => h4 z (.inl hz)⟩, ?_, fun hin => h3 _ hin _ rfl rfl⟩
      have := h4 xs[k] (.inr rfl)
      omega
theorem ballotOK_iff (xs : List Int) (n : Int) : ballotOK xs n = true ↔ (1 ≤ n ∧ n ≤ 5) ∧ xs.Nodup ∧ ∀ z ∈ xs, 0 ≤ z ∧ z < n := by
  unfold ballotOK
  rw [Bool.and_eq_true, vPre_iff n xs _ (Nat.le_refl _), List.take_length]
  simp [inB]
theorem ballotOK_len {xs : List Int} {n : Nat} (h : ballotOK xs n = true) : xs.length ≤ n := by
  rw [ballotOK_iff] at h
  exact erase_bound n xs h.2.1 h.2.2

set_option maxHeartbeats 400000 in
theorem c_impl_BallotParse (s : ByteArray) (w : World) (hs : s.size ≤ 2000000) :
    Calls Tryd.prog 85 #[.string s] w (ParseRes s w) := by
  go_enter Tryd.func85, Tryd.ntmps85
  go_wp2
  go_loopw [4, 8] (fun v i wr => ∃ (k : Nat) (A : Option Addr) (c : Nat), k ≤ s.size ∧ k ≤ 5 ∧ i = .int .i64 k ∧ v = .slice A k c ∧ wr.ownsRow w.heap.size 3 1 (.slice A k c) k (((ballotOf s).take k).map (Value.int .i64)) ∧ Below w.heap.size w wr) (fun _ i _ => s.size - (intOf i).toNat)
  case atStart => exact ⟨0, _, _, Nat.zero_le _, Nat.zero_le _, rfl, rfl, own_nil _ _ _ _, Below.refl _ _⟩
  case round =>
    obtain ⟨k, A, c, hk, hk5, rfl, rfl, hown, hb⟩ := hrel
    by_cases hlt : k < s.size
    · have hz := Lib.hid (ballotOf_at s k hlt)
      have hbs := hb.size
      have hu : s[k].toNat < 256 := UInt8.toNat_lt _
      by_cases h5 : k < 5
      · go_wp2_with (at_builtin; refine wpList_app intE rfl _ _ rfl w.heap.size k _ _ rfl hown [_] rfl rfl (by simp [Value.oneCell']) (by omega) (by omega) hbs ?_; intro A' c' w1 hown1 hb1 hg1 hat1)
        go_roundw
        case rel => exact ⟨k + 1, A', c', by omega, by omega, by go_num, rfl, by rw [take_succ_of hz.out, List.map_append]; exact hown1, hb.trans hb1⟩
        case measure => simp [intOf]; omega
      · go_wp2_with (at_builtin; refine wpList_app intE rfl _ _ rfl w.heap.size k _ _ rfl hown [_] rfl rfl (by simp [Value.oneCell']) (by omega) (by omega) hbs ?_; intro A' c' w1 hown1 hb1 hg1 hat1)
        go_ret2
        refine ParseRes.no ?_ (gb_of_below (hb.trans hb1) none) (own_nil _ _ _ _)
        cases hok : ballotOK (ballotOf s) 5 with
        | false => rfl
        | true => have := ballotOK_len (n := 5) hok; rw [ballotOf_len] at this; omega
    · obtain rfl : k = s.size := by omega
      have hI : Ints wr w.heap.size A s.size c (ballotOf s) := by
        have := Sl.own hown
        rwa [List.take_of_length_le (by rw [ballotOf_len]; omega)] at this
      rw [List.take_of_length_le (by rw [ballotOf_len]; omega)] at hown
      by_cases hok : ballotOK (ballotOf s) 5 = true
      · go_wp2_with fail
        refine (c_impl_BallotValid w.heap.size A s.size c (ballotOf s) _ wr hI).mono ?_
        rintro e w1 ⟨rfl, rfl⟩
        go_wp2
        go_ret2
        exact ParseRes.ok hok (gb_of_below hb none) hown
      · have hok' : ballotOK (ballotOf s) 5 = false := by simpa using hok
        clear hok
        go_wp2_with fail
        refine (c_impl_BallotValid w.heap.size A s.size c (ballotOf s) _ wr hI).mono ?_
        rintro e w1 ⟨rfl, rfl⟩
        go_wp2
        go_ret2
        exact ParseRes.no hok' (gb_of_below hb none) (own_nil _ _ _ _)
end Go.Proofs.YtipnalfkpalieaaDoor
