/-
  The program's root of a tree; the size of a list of texts.
-/
import Derived.Test.YtocdgmmmegcnoaaGrid
namespace Go.Proofs.Ytocdgmmmegcnoaa
open Go.RowKit
set_option linter.unusedVariables false

set_option maxHeartbeats 400000 in
theorem c_impl_TreeRoot (lo : Nat) (S : Option Addr) (n cap : Nat) (ss : List ByteArray) (w : World) (h : Strs w lo S n cap ss) (hs : ∀ s ∈ ss, s.size ≤ 2000000) :
    Calls Try.prog 29 #[.slice S n cap] w fun e w' => e = .returned (.int .i64 (treeRoot ss)) ∧ w.grownBy w' none := by
  have hnil : ∀ W, (binOp .eql 61 (.slice none 0 0) (.slice none 0 0)).run Try.prog W = .ok (.bool true) W := fun W => Lib.run_eql_slice_nil W _ _ none 0 0 0 0 Try.underlying61
  have hsome : ∀ (b o n c : Nat) W, (binOp .eql 61 (.slice (some ⟨b, o, none⟩) n c) (.slice none 0 0)).run Try.prog W = .ok (.bool false) W := fun b o n c W => Lib.run_eql_slice_nil W _ _ _ n c 0 0 Try.underlying61
  go_enter Try.func29, Try.ntmps29
  go_wp2_with fail
  refine (c_treeRows lo _ _ _ ss _ h hs).mono ?_
  rintro e w1 ⟨hg, ⟨hok, rfl⟩ | ⟨hok, D, R, c, vs, rfl, hD, hrows⟩⟩
  · have Hok := Lib.hid hok
    clear hok
    go_wp2
    go_ret
    exact ⟨ret_int (by rw [treeRoot, Hok.out]; rfl), hg⟩
  · have hvl : vs.length = R := by have := hD.1; omega
    have hR : R = (upRows (leavesOf ss)).length + 1 := by rw [← hvl, hrows.1]; rfl
    obtain ⟨r, hr⟩ : ∃ r, (upRows (leavesOf ss)).length = r := ⟨_, rfl⟩
    rw [hr] at hR
    subst hR
    have hS := Sl.own hD
    have hlc := hS.le
    have hcm := hS.max
    obtain ⟨b, off, v, hDe, hv, hcell⟩ := hS.at1 (k := r) (by omega)
    injection hDe with hDe
    subst hDe
    have htop := allRows_last _ (leavesOf ss) rfl
    rw [hr] at htop
    obtain ⟨A, m, c', rfl, hI, hm, _⟩ := hrows.2 r v (topRow (leavesOf ss)) hv.out htop
    have hlc' := hI.le
    have hcm' := hI.max
    obtain ⟨b', off', z, rfl, hz, hcell'⟩ := hI.at_ (k := 0) hm
    rw [Nat.add_zero] at hcell'
    have Hr := Lib.hid hr
    have Htop := Lib.hid htop
    have Hok := Lib.hid hok
    clear hrows hD hv hr htop hok hvl hI hS
    have w1 : IntKind.i64.wrap (((r + 1 : Nat) : Int) - 1) = (r : Int) := by rw [IntWalk.i64_in _ (by omega)]; omega
    go_wp2
    go_ret
    refine ⟨ret_int ?_, hg⟩
    rw [treeRoot, Hok.out, if_pos rfl]
    have := hz.out
    cases ht : topRow (leavesOf ss) with
    | nil => rw [ht] at this; cases this
    | cons y ys => rw [ht] at this; simpa using this.symm

/-- What is left of 'left' once a list of texts is taken off; -1 where it is not enough. -/
def leftOver (left : Int) : List ByteArray → Int
  | [] => left
  | s :: r => if left - s.size < 0 then -1 else leftOver (left - s.size) r
def sizesLeft (left : Int) (ss : List ByteArray) : Int := if left - ss.length < 0 then -1 else leftOver (left - ss.length) ss
theorem leftOver_fit : ∀ (ss : List ByteArray) (left : Int), 0 ≤ leftOver left ss → ∀ s ∈ ss, (s.size : Int) ≤ left
  | [], left, h, s, hs => by cases hs
  | a :: r, left, h, s, hs => by
    unfold leftOver at h
    split at h
    · omega
    · rcases List.mem_cons.1 hs with rfl | hs
      · omega
      · have := leftOver_fit r _ h s hs
        omega
theorem sizesLeft_fit {ss : List ByteArray} {left : Int} (h : ¬ sizesLeft left ss < 0) : (ss.length : Int) ≤ left ∧ ∀ s ∈ ss, (s.size : Int) ≤ left := by
  unfold sizesLeft at h
  split at h
  · omega
  · refine ⟨by omega, fun s hs => ?_⟩
    have := leftOver_fit ss (left - ss.length) (by omega) s hs
    omega

set_option maxHeartbeats 400000 in
theorem c_szStringS (lo : Nat) (A : Option Addr) (n cap : Nat) (ss : List ByteArray) (left : Int) (w : World) (h : Strs w lo A n cap ss) (hs : ∀ s ∈ ss, s.size ≤ maxLen) (h0 : 0 ≤ left) (h1 : left ≤ 1048576) :
    Calls Try.prog 26 #[.slice A n cap, .int .i64 left] w fun e w' => e = .returned (.int .i64 (sizesLeft left ss)) ∧ ∃ d, w' = w.drewN d := by
  have hlc := h.le
  have hcm := h.max
  have hxl := Lib.hid h.len
  have Hs := Lib.hid hs
  clear hs
  by_cases hn : left - n < 0
  · go_enter Try.func26, Try.ntmps26
    go_wp2
    go_ret
    exact ⟨ret_int (by rw [sizesLeft, hxl.out, if_pos hn]), 0, rfl⟩
  · have hn' : (n : Int) ≤ left := by omega
    go_enter Try.func26, Try.ntmps26
    go_wp2
    go_loopw [1, 5] (fun v i wr => ∃ (k d : Nat) (l : Int), k ≤ n ∧ i = .int .i64 k ∧ v = .int .i64 l ∧ 0 ≤ l ∧ l ≤ 1048576 ∧ wr = w.drewN d ∧ Hid (leftOver l (ss.drop k) = sizesLeft left ss)) (fun _ i _ => n - (intOf i).toNat)
    case atStart => exact ⟨0, 0, left - n, Nat.zero_le _, rfl, by go_num, by omega, by omega, rfl, Lib.hid (by rw [sizesLeft, hxl.out, if_neg (by omega)]; rfl)⟩
    case round =>
      obtain ⟨k, d, l, hk, rfl, rfl, hl0, hl1, rfl, hinv⟩ := hrel
      by_cases hlt : k < n
      · obtain ⟨b, off, z, rfl, hz, hcell⟩ := h.at_ hlt
        have hzs := Hs.out z (List.mem_of_getElem? hz.out)
        unfold maxLen at hzs
        have hst : Hid (leftOver l (ss.drop k) = if l - z.size < 0 then -1 else leftOver (l - z.size) (ss.drop (k + 1))) := Lib.hid (by rw [drop_cons' hz.out]; rfl)
        by_cases hneg : l - z.size < 0
        · go_wp2
          go_ret
          exact ⟨ret_int (by rw [← hinv.out, hst.out, if_pos hneg]), d, rfl⟩
        · have hpos : (z.size : Int) ≤ l := by omega
          go_wp2
          go_roundw
          case rel => exact ⟨k + 1, d, l - z.size, by omega, by go_num, by go_num, by omega, by omega, rfl, Lib.hid (by rw [← hinv.out, hst.out, if_neg hneg])⟩
          case measure => simp [intOf]; omega
      · obtain rfl : k = n := by omega
        have hfin : Hid (leftOver l (ss.drop k) = l) := Lib.hid (by rw [List.drop_eq_nil_of_le (by rw [hxl.out]; exact Nat.le_refl _)]; rfl)
        go_wp2
        go_ret
        exact ⟨ret_int (by rw [← hinv.out, hfin.out]), d, rfl⟩
end Go.Proofs.Ytocdgmmmegcnoaa
