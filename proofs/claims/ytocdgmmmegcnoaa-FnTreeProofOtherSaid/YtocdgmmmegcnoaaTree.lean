/-
  The reference's leaves, sums of pairs, and root.
-/
import Derived.Test.YtocdgmmmegcnoaaLeaf
import Derived.Test.YtocdgmmmegcnoaaTo
import Derived.Deep.RegionHeld3
import Derived.Deep.DrawnRows
namespace Go.Proofs.Ytocdgmmmegcnoaa
open Go.RowKit
set_option linter.unusedVariables false

/-- The sums of pairs; a last one alone stays. -/
def upRow : List Int → List Int
  | [] => []
  | [x] => [x]
  | x :: y :: r => nodeSum x y :: upRow r

theorem upRow_one {xs : List Int} {k : Nat} {z : Int} (h : xs[k]? = some z) (hk : k + 1 = xs.length) : upRow (xs.drop k) = [z] := by
  rw [drop_cons' h, List.drop_eq_nil_of_le (by omega)]
  rfl
theorem upRow_two {xs : List Int} {k : Nat} {y z : Int} (h : xs[k]? = some y) (h' : xs[k + 1]? = some z) : upRow (xs.drop k) = nodeSum y z :: upRow (xs.drop (k + 2)) := by
  rw [drop_cons' h, drop_cons' h']
  rfl

attribute [local go_sem ↓] Go.wp_at_zero Go.wp_at_succ
set_option maxHeartbeats 1000000 in
theorem c_l44Up (lo : Nat) (A : Option Addr) (n cap : Nat) (xs : List Int) (w : World) (h : Ints w lo A n cap xs) (hn : n ≤ 1000000) :
    Calls Try.prog 50 #[.slice A n cap] w fun e w' => ∃ B c m, e = .returned (.slice B m c) ∧ w.grownBy w' none ∧ w'.ownsRow w.heap.size 3 1 (.slice B m c) m ((upRow xs).map (Value.int .i64)) := by
  have hlc := h.le
  have hcm := h.max
  have hxl := Lib.hid h.len
  go_enter Try.func50, Try.ntmps50
  go_wp2
  go_loopw [3, 4] (fun v i wr => ∃ (k m : Nat) (B : Option Addr) (c : Nat) (ys : List Int), k ≤ n + 1 ∧ m ≤ k ∧ i = .int .i64 k ∧ v = .slice B m c ∧ wr.ownsRow w.heap.size 3 1 (.slice B m c) m (ys.map (Value.int .i64)) ∧ Below w.heap.size w wr ∧
    Hid (ys ++ upRow (xs.drop k) = upRow xs)) (fun _ i _ => (n + 1) - (intOf i).toNat)
  case atStart => exact ⟨0, 0, _, _, [], Nat.zero_le _, Nat.le_refl _, rfl, rfl, own_empty _ _ _ _ (Nat.le_refl _), (Below.refl _ _).alloc (Nat.le_refl _) _, Lib.hid rfl⟩
  case round =>
    obtain ⟨k, m, B, c, ys, hk, hmk, rfl, rfl, hown, hb, hinv⟩ := hrel
    have hbs := hb.size
    have hI : Ints wr lo A n cap xs := sl_below h hb (Nat.le_refl _)
    by_cases hlt : k < n
    · obtain ⟨b, off, z, rfl, hz, hcell0⟩ := h.at_ hlt
      have hbl : b < w.heap.size := World.block_lt_of_cell? _ _ hcell0
      have hcell := (hb.cell (p := ⟨b, off + k, none⟩) hbl).trans hcell0
      clear hcell0
      by_cases hlt2 : k + 1 < n
      · obtain ⟨b', off', z', he, hz', hcell'⟩ := hI.at_ hlt2
        obtain ⟨rfl, rfl⟩ : b' = b ∧ off' = off := by injection he with he; injection he with h1 h2; exact ⟨h1.symm, h2.symm⟩
        have hk0 : (0 : Int) ≤ (k : Int) := by omega
        have hk1 : (k : Int) < (n : Int) := by omega
        have hk2 : (0 : Int) ≤ (k : Int) + 1 := by omega
        have hk3 : (k : Int) + 1 < (n : Int) := by omega
        have w1 : IntKind.i64.wrap ((k : Int) + 1) = (k : Int) + 1 := IntWalk.i64_in _ (by omega)
        have w2 : ((k : Int) + 1).toNat = k + 1 := by omega
        go_wp2_with fail
        go_region_held3 (fun w' => w'.cell? ⟨b', off' + k, none⟩ = some (.int .i64 z) ∧ w'.cell? ⟨b', off' + (k + 1), none⟩ = some (.int .i64 z')) (first | (exact ⟨hcell, hcell'⟩) | (exact ⟨((below_alloc_drew hb3 hbs).cell hbl).trans hcell, ((below_alloc_drew hb3 hbs).cell hbl).trans hcell'⟩) | go_keep) (first | (go_at_call 16; refine (c_spec_NodeSum _ _ _).mono ?_; rintro e w' ⟨rfl, rfl⟩) | (refine step_appB intE (by rfl) _ _ (by rfl) w.heap.size m _ _ (by rfl) (own_drew (hown.alloc _)) wr.heap.size [_] (by rfl) (blk_drew (Blk.new _ _ _)) (by rfl) (by simp [Value.oneCell']) (by omega) (by omega) (le_alloc_drew hbs) ?_; intro B' c' w3 hown3 hb3 hg3 hat3))
        have hb4 := hb.trans (below_alloc_drew hb3 hbs)
        go_wp2
        go_roundw
        case rel => exact ⟨k + 2, m + 1, B', c', ys ++ [nodeSum z z'], by omega, by omega, by go_num, rfl, by rw [List.map_append]; exact hown3, hb4, Lib.hid (by
          have hi := hinv.out
          rw [upRow_two hz.out hz'.out] at hi
          rw [List.append_assoc]
          exact hi)⟩
        case measure => simp [intOf]; omega
      · go_wp2_with (at_builtin; refine wpList_app intE rfl _ _ rfl w.heap.size m _ _ rfl hown [_] rfl rfl (by simp [Value.oneCell']) (by omega) (by omega) hbs ?_; intro B' c' w3 hown3 hb3 hg3 hat3)
        go_roundw
        case rel => exact ⟨k + 2, m + 1, B', c', ys ++ [z], by omega, by omega, by go_num, rfl, by rw [List.map_append]; exact hown3, hb.trans hb3, Lib.hid (by
          have hi := hinv.out
          rw [upRow_one hz.out (by rw [hxl.out]; omega)] at hi
          rw [List.drop_eq_nil_of_le (by rw [hxl.out]; omega)]
          simpa [upRow] using hi)⟩
        case measure => simp [intOf]; omega
    · have hfin : Hid (ys = upRow xs) := Lib.hid (by
        have hi := hinv.out
        rw [List.drop_eq_nil_of_le (by rw [hxl.out]; omega)] at hi
        simpa [upRow] using hi)
      go_wp2
      go_ret
      exact ⟨B, c, m, rfl, gb_of_below hb none, by rw [← hfin.out]; exact hown⟩

theorem upRow_len : ∀ xs : List Int, (upRow xs).length = (xs.length + 1) / 2
  | [] => rfl
  | [_] => by simp [upRow]
  | _ :: _ :: r => by
    simp only [upRow, List.length_cons, upRow_len r]
    omega
/-- The last row. -/
def topRow (xs : List Int) : List Int := if xs.length ≤ 1 then xs else topRow (upRow xs)
termination_by xs.length
decreasing_by rw [upRow_len]; omega
theorem topRow_end {xs : List Int} (h : xs.length ≤ 1) : topRow xs = xs := by rw [topRow.eq_def, if_pos h]
theorem topRow_up {xs : List Int} (h : ¬ xs.length ≤ 1) : topRow xs = topRow (upRow xs) := by rw [topRow.eq_def, if_neg h]

def okText (s : ByteArray) : Bool := ballotOK (ballotOf s) 5
def treeOK (ss : List ByteArray) : Bool := ss.all okText && inB ss.length 1 8
def leavesOf (ss : List ByteArray) : List Int := (List.range ss.length).map fun (i : Nat) => leafSum (i : Int) (ss.getD i ⟨#[]⟩)
def treeRoot (ss : List ByteArray) : Int := if treeOK ss then (topRow (leavesOf ss)).headD 0 else -1
theorem leavesOf_len (ss : List ByteArray) : (leavesOf ss).length = ss.length := by simp [leavesOf]
theorem leavesOf_at {ss : List ByteArray} {k : Nat} {s : ByteArray} (h : ss[k]? = some s) : (leavesOf ss)[k]? = some (leafSum (k : Int) s) := by
  have hk : k < ss.length := (List.getElem?_eq_some_iff.1 h).1
  unfold leavesOf
  rw [List.getElem?_map, List.getElem?_range hk]
  show some (leafSum (k : Int) (ss.getD k ⟨#[]⟩)) = _
  rw [List.getD_eq_getElem?_getD, h]
  rfl

set_option maxHeartbeats 400000 in
theorem c_l44Ok (lo : Nat) (A : Option Addr) (n cap : Nat) (ss : List ByteArray) (w : World) (h : Strs w lo A n cap ss) (hs : ∀ s ∈ ss, s.size ≤ 2000000) :
    Calls Try.prog 48 #[.slice A n cap] w fun e w' => e = .returned (.bool (treeOK ss)) ∧ w.grownBy w' none := by
  have hlc := h.le
  have hcm := h.max
  have hxl := Lib.hid h.len
  have Hs := Lib.hid hs
  clear hs
  go_enter Try.func48, Try.ntmps48
  go_wp2
  go_loopw [3] (fun i wr => ∃ k : Nat, k ≤ n ∧ i = .int .i64 k ∧ w.grownBy wr none ∧ Hid ((ss.take k).all okText = true)) (fun i _ => n - (intOf i).toNat)
  case atStart => exact ⟨0, Nat.zero_le _, rfl, gb_refl _ _, Lib.hid rfl⟩
  case round =>
    obtain ⟨k, hk, rfl, hG, hpre⟩ := hrel
    by_cases hlt : k < n
    · obtain ⟨b, off, z, rfl, hz, hcell⟩ := Strs.at_ (Sl.keep0 h hG) hlt
      have hzs := Hs.out z (List.mem_of_getElem? hz.out)
      go_wp2_with fail
      refine (c_spec_BallotParse _ _ hzs).mono ?_
      rintro e w1 ⟨A', c', rfl, hg1, _⟩
      have hG1 := gb_trans hG hg1
      by_cases hok : ballotOK (ballotOf z) 5 = true
      · have Hok := Lib.hid hok
        go_wp2
        clear hok
        go_roundw
        case rel => exact ⟨k + 1, by omega, by go_num, hG1, Lib.hid (by rw [take_succ_of hz.out, List.all_append, hpre.out]; simp [okText, Hok.out])⟩
        case measure => simp [intOf]; omega
      · have hok' : ballotOK (ballotOf z) 5 = false := by simpa using hok
        clear hok
        go_wp2
        go_ret
        refine ⟨ret_bool ?_, hG1⟩
        have : ss.all okText = false := by
          rw [List.all_eq_false]
          exact ⟨z, List.mem_of_getElem? hz.out, by simp [okText, hok']⟩
        rw [treeOK, this]
        rfl
    · obtain rfl : k = n := by omega
      go_wp2_with fail
      refine (c_l6In _ _ _ _).mono ?_
      rintro e w' ⟨rfl, rfl⟩
      go_wp2
      go_ret
      refine ⟨ret_bool ?_, hG⟩
      have hp := hpre.out
      rw [List.take_of_length_le (by rw [hxl.out]; exact Nat.le_refl _)] at hp
      rw [treeOK, hp, hxl.out]
      rfl

set_option maxHeartbeats 400000 in
theorem c_l44Leaves (lo : Nat) (A : Option Addr) (n cap : Nat) (ss : List ByteArray) (w : World) (h : Strs w lo A n cap ss) (hn : n ≤ 1000000) (hs : ∀ s ∈ ss, s.size ≤ 2000000) :
    Calls Try.prog 49 #[.slice A n cap] w fun e w' => ∃ B c, e = .returned (.slice B n c) ∧ w.grownBy w' none ∧ w'.ownsRow w.heap.size 3 1 (.slice B n c) n ((leavesOf ss).map (Value.int .i64)) := by
  have hlc := h.le
  have hcm := h.max
  have hxl := Lib.hid h.len
  have Hs := Lib.hid hs
  clear hs
  go_enter Try.func49, Try.ntmps49
  go_wp2
  go_loopw [3, 4] (fun v i wr => ∃ (k : Nat) (B : Option Addr) (c : Nat), k ≤ n ∧ i = .int .i64 k ∧ v = .slice B k c ∧ wr.ownsRow w.heap.size 3 1 (.slice B k c) k (((leavesOf ss).take k).map (Value.int .i64)) ∧ Below w.heap.size w wr) (fun _ i _ => n - (intOf i).toNat)
  case atStart => exact ⟨0, _, _, Nat.zero_le _, rfl, rfl, own_empty _ _ _ _ (Nat.le_refl _), (Below.refl _ _).alloc (Nat.le_refl _) _⟩
  case round =>
    obtain ⟨k, B, c, hk, rfl, rfl, hown, hb⟩ := hrel
    by_cases hlt : k < n
    · obtain ⟨b, off, z, rfl, hz, hcell⟩ := Strs.at_ (sl_below h hb (Nat.le_refl _)) hlt
      have hzs := Hs.out z (List.mem_of_getElem? hz.out)
      go_wp2_with fail
      refine (c_spec_LeafSum _ _ _ hzs).mono ?_
      rintro e w1 ⟨rfl, hg1⟩
      have hown1 := own_below hown hg1
      have hb1 := below_gbn hb hg1 hb.size
      have hbs1 := hb1.size
      go_wp2_with (at_builtin; refine wpList_app intE rfl _ _ rfl w.heap.size k _ _ rfl hown1 [_] rfl rfl (by simp [Value.oneCell']) (by omega) (by omega) hbs1 ?_; intro B' c' w3 hown3 hb3 hg3 hat3)
      go_roundw
      case rel => exact ⟨k + 1, B', c', by omega, by go_num, rfl, by rw [take_succ_of (leavesOf_at hz.out), List.map_append]; exact hown3, hb1.trans hb3⟩
      case measure => simp [intOf]; omega
    · obtain rfl : k = n := by omega
      rw [List.take_of_length_le (by rw [leavesOf_len, hxl.out]; exact Nat.le_refl _)] at hown
      go_wp2
      go_ret
      exact ⟨B, c, rfl, gb_of_below hb none, hown⟩

theorem own_len {w : World} {lo e n : Nat} {v : Value} {xs : List Int} (h : w.ownsRow lo e 1 v n (xs.map (Value.int .i64))) : xs.length = n := by have := h.1; simpa using this

set_option maxHeartbeats 400000 in
theorem c_spec_TreeRoot (lo : Nat) (A : Option Addr) (n cap : Nat) (ss : List ByteArray) (w : World) (h : Strs w lo A n cap ss) (hs : ∀ s ∈ ss, s.size ≤ 2000000) :
    Calls Try.prog 27 #[.slice A n cap] w fun e w' => e = .returned (.int .i64 (treeRoot ss)) ∧ w.grownBy w' none := by
  have hxl := Lib.hid h.len
  by_cases hok : treeOK ss = true
  · have Hok := Lib.hid hok
    have hn : 1 ≤ n ∧ n ≤ 8 := by simp [treeOK, inB, hxl.out] at hok; omega
    obtain ⟨hn1, hn8⟩ := hn
    go_enter Try.func27, Try.ntmps27
    go_wp2_with fail
    refine (c_l44Ok lo _ _ _ ss _ h hs).mono ?_
    rintro e w1 ⟨rfl, hg1⟩
    go_wp2_with fail
    refine (c_l44Leaves lo _ _ _ ss _ (Sl.keep0 h hg1) (by omega) hs).mono ?_
    rintro e w2 ⟨B, c, rfl, hg2, hown2⟩
    have hG2 := gb_trans hg1 hg2
    clear hok hs
    go_wp2_with fail
    go_loopw [3] (fun v wr => ∃ (m lo' : Nat) (B : Option Addr) (c : Nat) (ys : List Int), v = .slice B m c ∧ wr.ownsRow lo' 3 1 (.slice B m c) m (ys.map (Value.int .i64)) ∧ w.grownBy wr none ∧ 1 ≤ m ∧ m ≤ 8 ∧
      Hid (topRow ys = topRow (leavesOf ss))) (fun v _ => match v with | .slice _ m _ => m | _ => 0)
    case atStart => exact ⟨n, _, _, _, _, rfl, hown2, hG2, hn1, hn8, Lib.hid rfl⟩
    case round =>
      obtain ⟨m, lo', B, c, ys, rfl, hown, hG, hm1, hm8, hinv⟩ := hrel
      have hyl := Lib.hid (own_len hown)
      by_cases h1 : m ≤ 1
      · obtain rfl : m = 1 := by omega
        obtain ⟨b, off, z, rfl, hz, hcell⟩ := (show Ints wr lo' B 1 c ys from Sl.own hown).at_ (k := 0) (by omega)
        rw [Nat.add_zero] at hcell
        go_wp2
        go_ret
        refine ⟨ret_int ?_, hG⟩
        rw [treeRoot, Hok.out, if_pos rfl, ← hinv.out, topRow_end (by rw [hyl.out]; exact Nat.le_refl _)]
        have := hz.out
        cases ys with
        | nil => cases this
        | cons y ys => simpa using this.symm
      · go_wp2_with fail
        refine (c_l44Up lo' _ _ _ ys _ (Sl.own hown) (by omega)).mono ?_
        rintro e w3 ⟨B', c', m', rfl, hg3, hown3⟩
        have hm' : m' = (m + 1) / 2 := by rw [← own_len hown3, upRow_len, hyl.out]
        have Hm := Lib.hid hm'
        have hma : m' < m := by omega
        have hmb : 1 ≤ m' := by omega
        clear hm'
        go_wp2
        go_roundw
        case rel => exact ⟨m', _, B', c', upRow ys, rfl, hown3, gb_trans hG hg3, hmb, by omega, Lib.hid (by rw [← topRow_up (by rw [hyl.out]; exact h1)]; exact hinv.out)⟩
        case measure => exact hma
  · have hok' : treeOK ss = false := by simpa using hok
    clear hok
    have Hok := Lib.hid hok'
    go_enter Try.func27, Try.ntmps27
    go_wp2_with fail
    refine (c_l44Ok lo _ _ _ ss _ h hs).mono ?_
    rintro e w1 ⟨rfl, hg1⟩
    go_wp2
    go_ret
    exact ⟨ret_int (by rw [treeRoot, Hok.out]; rfl), hg1⟩
end Go.Proofs.Ytocdgmmmegcnoaa
