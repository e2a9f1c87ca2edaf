/-
  How the laws copy and compare slices of integers and of strings.
-/
import Derived.Test.YtocdgmmmegcnoaaParse
namespace Go.Proofs.Ytocdgmmmegcnoaa
open Go.RowKit
set_option linter.unusedVariables false

abbrev intEz : Value := .int .i64 0
abbrev strEz : Value := .string ⟨#[]⟩

set_option maxHeartbeats 400000 in
theorem c_toIntS (lo : Nat) (A : Option Addr) (n cap : Nat) (xs : List Int) (w : World) (h : Ints w lo A n cap xs) (hn : n ≤ 2000000) :
    Calls Try.prog 23 #[.slice A n cap] w fun e w' => e = .returned (.slice (some ⟨w.heap.size, 0, none⟩) n n) ∧ w.grownBy w' none ∧
      w'.ownsRow w.heap.size 3 1 (.slice (some ⟨w.heap.size, 0, none⟩) n n) n (xs.map (Value.int .i64)) := by
  have hlc := h.le
  have hcm := h.max
  have hxl := Lib.hid h.len
  have hmk := run_mk intE n (by omega) (by omega)
  have hb0 : Blk (w.alloc (.cells (madeCells (intEz : Value).cells (n * 1)) 3)) w.heap.size 3 (madeCells (intEz : Value).cells (n * 1)) := Blk.new _ _ _
  obtain ⟨cs0, hcs⟩ : ∃ cs, madeCells (intEz : Value).cells (n * 1) = cs := ⟨_, rfl⟩
  have hsz : cs0.size = n := by rw [← hcs, size_madeCells]; omega
  have hmk' : ∀ wx : World, (Instr.makeSlice 32 (.int .i64 (n : Int)) (.int .i64 (n : Int))).run Try.prog wx = .ok (.slice (some ⟨wx.heap.size, 0, none⟩) n n) (wx.alloc (.cells cs0 3)) := fun wx => by rw [hmk wx]; simp only [← hcs]
  clear hmk
  rw [hcs] at hb0
  clear hcs
  have Hsz := Lib.hid hsz
  clear hsz
  go_enter Try.func23, Try.ntmps23
  go_wp2
  clear hmk'
  go_loopw [4] (fun i wr => ∃ (k : Nat) (cs : Array Value), k ≤ n ∧ i = .int .i64 k ∧ Blk wr w.heap.size 3 cs ∧ Hid (cs.size = n) ∧ Hid (∀ j, j < k → cs[j]? = (xs.map (Value.int .i64))[j]?) ∧ w.grownBy wr none) (fun i _ => n - (intOf i).toNat)
  case atStart => exact ⟨0, cs0, Nat.zero_le _, rfl, hb0, Hsz, Lib.hid (by omega), gb_alloc (gb_refl _ _) _⟩
  case round =>
    obtain ⟨k, cs, hk, rfl, hb, hs, hpre, hG⟩ := hrel
    by_cases hlt : k < n
    · obtain ⟨b, off, z, rfl, hz, hcell⟩ := Ints.at_ (Sl.keep0 h hG) hlt
      obtain ⟨u, hu⟩ := blk_cell hb (k := k) (by rw [hs.out]; exact hlt)
      have hf := hb.frozen k
      go_wp2
      go_roundw
      case rel => exact ⟨k + 1, cs.setIfInBounds k ((Value.int .i64) z), by omega, by go_num, hb.set_ k _, Lib.hid (by rw [Array.size_setIfInBounds]; exact hs.out), Lib.hid (fun j hj => by
          by_cases hjk : j = k
          · subst hjk
            rw [Array.getElem?_setIfInBounds_self_of_lt (by rw [hs.out]; exact hlt), List.getElem?_map, hz.out]
            rfl
          · rw [Array.getElem?_setIfInBounds_ne (fun e => hjk e.symm)]
            exact hpre.out j (by omega)), gb_setCell hG (.inr (Nat.le_refl _)) _⟩
      case measure => simp [intOf]; omega
    · obtain rfl : k = n := by omega
      have he : Hid (cs.toList = xs.map (Value.int .i64)) := Lib.hid (by
        apply List.ext_getElem?
        intro j
        by_cases hj : j < k
        · rw [Array.getElem?_toList]
          exact hpre.out j hj
        · rw [List.getElem?_eq_none (by simp; rw [hs.out]; omega), List.getElem?_eq_none (by simp; rw [hxl.out]; omega)])
      have hown := own_of_blk (lo := w.heap.size) (size := 1) (n := k) hb (by rw [hs.out]; omega) (by omega) (Nat.le_refl _)
      rw [he.out] at hown
      go_wp2
      go_ret
      exact ⟨rfl, hG, hown⟩

theorem strInfo : (Try.prog.info? 9).map (fun i => (i.zero, i.size, i.bytes)) = some (some (.string ⟨#[]⟩), 1, 16) := by kernel_rfl
theorem strE : Elem Try.prog 36 9 1 16 (.string ⟨#[]⟩) := ⟨Try.underlying36, info_parts strInfo, rfl, by omega⟩

set_option maxHeartbeats 400000 in
theorem c_toStringS (lo : Nat) (A : Option Addr) (n cap : Nat) (xs : List ByteArray) (w : World) (h : Strs w lo A n cap xs) (hn : n ≤ 2000000) :
    Calls Try.prog 28 #[.slice A n cap] w fun e w' => e = .returned (.slice (some ⟨w.heap.size, 0, none⟩) n n) ∧ w.grownBy w' none ∧
      w'.ownsRow w.heap.size 9 1 (.slice (some ⟨w.heap.size, 0, none⟩) n n) n (xs.map Value.string) := by
  have hlc := h.le
  have hcm := h.max
  have hxl := Lib.hid h.len
  have hmk := run_mk strE n (by omega) (by omega)
  have hb0 : Blk (w.alloc (.cells (madeCells (strEz : Value).cells (n * 1)) 9)) w.heap.size 9 (madeCells (strEz : Value).cells (n * 1)) := Blk.new _ _ _
  obtain ⟨cs0, hcs⟩ : ∃ cs, madeCells (strEz : Value).cells (n * 1) = cs := ⟨_, rfl⟩
  have hsz : cs0.size = n := by rw [← hcs, size_madeCells]; omega
  have hmk' : ∀ wx : World, (Instr.makeSlice 36 (.int .i64 (n : Int)) (.int .i64 (n : Int))).run Try.prog wx = .ok (.slice (some ⟨wx.heap.size, 0, none⟩) n n) (wx.alloc (.cells cs0 9)) := fun wx => by rw [hmk wx]; simp only [← hcs]
  clear hmk
  rw [hcs] at hb0
  clear hcs
  have Hsz := Lib.hid hsz
  clear hsz
  go_enter Try.func28, Try.ntmps28
  go_wp2
  clear hmk'
  go_loopw [4] (fun i wr => ∃ (k : Nat) (cs : Array Value), k ≤ n ∧ i = .int .i64 k ∧ Blk wr w.heap.size 9 cs ∧ Hid (cs.size = n) ∧ Hid (∀ j, j < k → cs[j]? = (xs.map Value.string)[j]?) ∧ w.grownBy wr none) (fun i _ => n - (intOf i).toNat)
  case atStart => exact ⟨0, cs0, Nat.zero_le _, rfl, hb0, Hsz, Lib.hid (by omega), gb_alloc (gb_refl _ _) _⟩
  case round =>
    obtain ⟨k, cs, hk, rfl, hb, hs, hpre, hG⟩ := hrel
    by_cases hlt : k < n
    · obtain ⟨b, off, z, rfl, hz, hcell⟩ := Strs.at_ (Sl.keep0 h hG) hlt
      obtain ⟨u, hu⟩ := blk_cell hb (k := k) (by rw [hs.out]; exact hlt)
      have hf := hb.frozen k
      go_wp2
      go_roundw
      case rel => exact ⟨k + 1, cs.setIfInBounds k (Value.string z), by omega, by go_num, hb.set_ k _, Lib.hid (by rw [Array.size_setIfInBounds]; exact hs.out), Lib.hid (fun j hj => by
          by_cases hjk : j = k
          · subst hjk
            rw [Array.getElem?_setIfInBounds_self_of_lt (by rw [hs.out]; exact hlt), List.getElem?_map, hz.out]
            rfl
          · rw [Array.getElem?_setIfInBounds_ne (fun e => hjk e.symm)]
            exact hpre.out j (by omega)), gb_setCell hG (.inr (Nat.le_refl _)) _⟩
      case measure => simp [intOf]; omega
    · obtain rfl : k = n := by omega
      have he : Hid (cs.toList = xs.map Value.string) := Lib.hid (by
        apply List.ext_getElem?
        intro j
        by_cases hj : j < k
        · rw [Array.getElem?_toList]
          exact hpre.out j hj
        · rw [List.getElem?_eq_none (by simp; rw [hs.out]; omega), List.getElem?_eq_none (by simp; rw [hxl.out]; omega)])
      have hown := own_of_blk (lo := w.heap.size) (size := 1) (n := k) hb (by rw [hs.out]; omega) (by omega) (Nat.le_refl _)
      rw [he.out] at hown
      go_wp2
      go_ret
      exact ⟨rfl, hG, hown⟩

set_option maxHeartbeats 400000 in
theorem c_eqIntS (lo lo' : Nat) (A B : Option Addr) (n cap m cap' : Nat) (xs ys : List Int) (w : World) (h : Ints w lo A n cap xs) (h' : Ints w lo' B m cap' ys) :
    Calls Try.prog 25 #[.slice A n cap, .slice B m cap'] w fun e w' => e = .returned (.bool (decide (xs = ys))) ∧ ∃ d, w' = w.drewN d := by
  have hlc := h.le
  have hcm := h.max
  have hxl := Lib.hid h.len
  have hlc' := h'.le
  have hcm' := h'.max
  have hyl := Lib.hid h'.len
  by_cases hnm : n = m
  · subst hnm
    go_enter Try.func25, Try.ntmps25
    go_wp2
    go_loopw [5] (fun i wr => ∃ k d : Nat, k ≤ n ∧ i = .int .i64 k ∧ wr = w.drewN d ∧ Hid (xs.take k = ys.take k)) (fun i _ => n - (intOf i).toNat)
    case atStart => exact ⟨0, 0, Nat.zero_le _, rfl, rfl, Lib.hid rfl⟩
    case round =>
      obtain ⟨k, d, hk, rfl, rfl, hpre⟩ := hrel
      by_cases hlt : k < n
      · obtain ⟨b, off, z, rfl, hz, hcell⟩ := h.at_ hlt
        obtain ⟨b', off', z', rfl, hz', hcell'⟩ := h'.at_ hlt
        have hk' : (k : Int) < (n : Int) := by omega
        by_cases hzz : z = z'
        · subst hzz
          go_wp2
          go_quiet (fail)
          go_wp2
          go_roundw
          case rel => exact ⟨k + 1, _, by omega, by go_num, rfl, Lib.hid (by rw [take_succ_of hz.out, take_succ_of hz'.out, hpre.out])⟩
          case measure => simp [intOf]; omega
        · have hne : (z != z') = true := bne_iff_ne.2 hzz
          have hne' : (z == z') = false := beq_eq_false_iff_ne.2 hzz
          go_wp2
          go_quiet (fail)
          go_wp2
          go_ret
          exact ⟨ret_bool (decide_eq_false (fun e => hzz (by subst e; have := hz.out.symm.trans hz'.out; injection this))).symm, _, World.drewN_drewN _ _ _⟩
      · obtain rfl : k = n := by omega
        go_wp2
        go_ret
        exact ⟨ret_bool (decide_eq_true (by have := hpre.out; rwa [List.take_of_length_le (by rw [hxl.out]; exact Nat.le_refl _), List.take_of_length_le (by rw [hyl.out]; exact Nat.le_refl _)] at this)).symm, _, rfl⟩
  · have hne : ((n : Int) != (m : Int)) = true := by rw [bne_iff_ne]; omega
    go_enter Try.func25, Try.ntmps25
    go_wp2
    go_ret
    exact ⟨ret_bool (decide_eq_false (fun e => hnm (by rw [← hxl.out, ← hyl.out, e]))).symm, 0, rfl⟩

set_option maxHeartbeats 400000 in
theorem c_eqStringS (lo lo' : Nat) (A B : Option Addr) (n cap m cap' : Nat) (xs ys : List ByteArray) (w : World) (h : Strs w lo A n cap xs) (h' : Strs w lo' B m cap' ys) :
    Calls Try.prog 30 #[.slice A n cap, .slice B m cap'] w fun e w' => e = .returned (.bool (decide (xs = ys))) ∧ ∃ d, w' = w.drewN d := by
  have hlc := h.le
  have hcm := h.max
  have hxl := Lib.hid h.len
  have hlc' := h'.le
  have hcm' := h'.max
  have hyl := Lib.hid h'.len
  by_cases hnm : n = m
  · subst hnm
    go_enter Try.func30, Try.ntmps30
    go_wp2
    go_loopw [5] (fun i wr => ∃ k d : Nat, k ≤ n ∧ i = .int .i64 k ∧ wr = w.drewN d ∧ Hid (xs.take k = ys.take k)) (fun i _ => n - (intOf i).toNat)
    case atStart => exact ⟨0, 0, Nat.zero_le _, rfl, rfl, Lib.hid rfl⟩
    case round =>
      obtain ⟨k, d, hk, rfl, rfl, hpre⟩ := hrel
      by_cases hlt : k < n
      · obtain ⟨b, off, z, rfl, hz, hcell⟩ := h.at_ hlt
        obtain ⟨b', off', z', rfl, hz', hcell'⟩ := h'.at_ hlt
        have hk' : (k : Int) < (n : Int) := by omega
        by_cases hzz : z = z'
        · subst hzz
          go_wp2
          go_quiet (fail)
          go_wp2
          go_roundw
          case rel => exact ⟨k + 1, _, by omega, by go_num, rfl, Lib.hid (by rw [take_succ_of hz.out, take_succ_of hz'.out, hpre.out])⟩
          case measure => simp [intOf]; omega
        · have hne := str_ne hzz
          go_wp2
          go_quiet (fail)
          go_wp2
          go_ret
          exact ⟨ret_bool (decide_eq_false (fun e => hzz (by subst e; have := hz.out.symm.trans hz'.out; injection this))).symm, _, World.drewN_drewN _ _ _⟩
      · obtain rfl : k = n := by omega
        go_wp2
        go_ret
        exact ⟨ret_bool (decide_eq_true (by have := hpre.out; rwa [List.take_of_length_le (by rw [hxl.out]; exact Nat.le_refl _), List.take_of_length_le (by rw [hyl.out]; exact Nat.le_refl _)] at this)).symm, _, rfl⟩
  · have hne : ((n : Int) != (m : Int)) = true := by rw [bne_iff_ne]; omega
    go_enter Try.func30, Try.ntmps30
    go_wp2
    go_ret
    exact ⟨ret_bool (decide_eq_false (fun e => hnm (by rw [← hxl.out, ← hyl.out, e]))).symm, 0, rfl⟩

set_option maxHeartbeats 400000 in
theorem c_sameInts (lo lo' : Nat) (A B : Option Addr) (n cap m cap' : Nat) (xs ys : List Int) (w : World) (h : Ints w lo A n cap xs) (h' : Ints w lo' B m cap' ys) :
    Calls Try.prog 38 #[.slice A n cap, .slice B m cap'] w fun e w' => e = .returned (.bool (decide (xs = ys))) ∧ ∃ d, w' = w.drewN d := by
  have hlc := h.le
  have hcm := h.max
  have hxl := Lib.hid h.len
  have hlc' := h'.le
  have hcm' := h'.max
  have hyl := Lib.hid h'.len
  by_cases hnm : n = m
  · subst hnm
    go_enter Try.func38, Try.ntmps38
    go_wp2
    go_loopw [5] (fun i wr => ∃ k d : Nat, k ≤ n ∧ i = .int .i64 k ∧ wr = w.drewN d ∧ Hid (xs.take k = ys.take k)) (fun i _ => n - (intOf i).toNat)
    case atStart => exact ⟨0, 0, Nat.zero_le _, rfl, rfl, Lib.hid rfl⟩
    case round =>
      obtain ⟨k, d, hk, rfl, rfl, hpre⟩ := hrel
      by_cases hlt : k < n
      · obtain ⟨b, off, z, rfl, hz, hcell⟩ := h.at_ hlt
        obtain ⟨b', off', z', rfl, hz', hcell'⟩ := h'.at_ hlt
        have hk' : (k : Int) < (n : Int) := by omega
        by_cases hzz : z = z'
        · subst hzz
          go_wp2
          go_quiet (fail)
          go_wp2
          go_roundw
          case rel => exact ⟨k + 1, _, by omega, by go_num, rfl, Lib.hid (by rw [take_succ_of hz.out, take_succ_of hz'.out, hpre.out])⟩
          case measure => simp [intOf]; omega
        · have hne : (z != z') = true := bne_iff_ne.2 hzz
          have hne' : (z == z') = false := beq_eq_false_iff_ne.2 hzz
          go_wp2
          go_quiet (fail)
          go_wp2
          go_ret
          exact ⟨ret_bool (decide_eq_false (fun e => hzz (by subst e; have := hz.out.symm.trans hz'.out; injection this))).symm, _, World.drewN_drewN _ _ _⟩
      · obtain rfl : k = n := by omega
        go_wp2
        go_ret
        exact ⟨ret_bool (decide_eq_true (by have := hpre.out; rwa [List.take_of_length_le (by rw [hxl.out]; exact Nat.le_refl _), List.take_of_length_le (by rw [hyl.out]; exact Nat.le_refl _)] at this)).symm, _, rfl⟩
  · have hne : ((n : Int) != (m : Int)) = true := by rw [bne_iff_ne]; omega
    go_enter Try.func38, Try.ntmps38
    go_wp2
    go_ret
    exact ⟨ret_bool (decide_eq_false (fun e => hnm (by rw [← hxl.out, ← hyl.out, e]))).symm, 0, rfl⟩
end Go.Proofs.Ytocdgmmmegcnoaa
