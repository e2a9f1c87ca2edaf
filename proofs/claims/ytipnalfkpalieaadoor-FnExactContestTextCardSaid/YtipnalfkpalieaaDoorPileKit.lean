/-
  How the laws measure, copy and compare slices of piles.
-/
import Derived.Test.YtipnalfkpalieaaDoorPilesMem
import Derived.Test.YtipnalfkpalieaaDoorKnown
import Derived.Test.YtipnalfkpalieaaDoorTo
namespace Go.Proofs.YtipnalfkpalieaaDoor
open Go.RowKit
set_option linter.unusedVariables false

/-- What is left of a measure: below 0, or all texts fit. -/
def SzOK (ps : List Pl) (left r : Int) : Prop := r < 0 ∨ (0 ≤ r ∧ r ≤ left ∧ (ps.length : Int) ≤ left ∧ ∀ p ∈ ps, (p.1.size : Int) ≤ left)
def SzRes (ps : List Pl) (left : Int) (w : World) (e : Ending) (w' : World) : Prop := ∃ r, e = .returned (.int .i64 r) ∧ -1 ≤ r ∧ SzOK ps left r ∧ w.grownBy w' none
def SzOne (n : Nat) (left : Int) (w : World) (e : Ending) (w' : World) : Prop := ∃ r, e = .returned (.int .i64 r) ∧ -1 ≤ r ∧ (r < 0 ∨ (0 ≤ r ∧ r ≤ left ∧ (n : Int) ≤ left)) ∧ w.grownBy w' none

set_option maxHeartbeats 400000 in
theorem c_szPile (s : ByteArray) (m left : Int) (w : World) (hs : s.size ≤ maxLen) (h0 : 0 ≤ left) (h1 : left ≤ 1048576) :
    Calls Tryd.prog 16 #[.agg #[.string s, .int .i64 m], .int .i64 left] w (SzOne s.size left w) := by
  unfold maxLen at hs
  by_cases hc : left < (s.size : Int)
  all_goals
    go_enter Tryd.func16, Tryd.ntmps16
    go_wp2
    go_ret
    refine ⟨_, rfl, by omega, by omega, gb_alloc (gb_refl _ _) _⟩

set_option maxHeartbeats 1000000 in
theorem c_szPileS (lo : Nat) (A : Option Addr) (n cap : Nat) (ps : List Pl) (left : Int) (w : World) (h : Piles w lo A n cap ps) (hw : ∀ p ∈ ps, p.1.size ≤ maxLen) (h0 : 0 ≤ left) (h1 : left ≤ 1048576) :
    Calls Tryd.prog 6 #[.slice A n cap, .int .i64 left] w (SzRes ps left w) := by
  have hlc := h.1
  have hcm := Sl.max h
  have hxl := Lib.hid h.len
  have Hw := Lib.hid hw
  clear hw
  by_cases hc : left < (n : Int)
  · go_enter Tryd.func6, Tryd.ntmps6
    go_wp2
    go_ret
    exact ⟨_, rfl, by omega, .inl (by omega), gb_refl _ _⟩
  · go_enter Tryd.func6, Tryd.ntmps6
    go_wp2
    go_loopw [1, 5] (fun l i wr => ∃ (k : Nat) (r : Int), k ≤ n ∧ i = .int .i64 k ∧ l = .int .i64 r ∧ 0 ≤ r ∧ r ≤ left ∧ w.grownBy wr none ∧ Hid (∀ p ∈ ps.take k, (p.1.size : Int) ≤ left)) (fun _ i _ => n - (intOf i).toNat)
    case atStart => exact ⟨0, left - n, Nat.zero_le _, rfl, rfl, by omega, by omega, gb_refl _ _, Lib.hid (by simp)⟩
    case round =>
      obtain ⟨k, r, hk, rfl, rfl, hr0, hr1, hG, hpre⟩ := hrel
      by_cases hlt : k < n
      · obtain ⟨b, off, ⟨s, m⟩, rfl, _, _, hp, m0, m1⟩ := Piles.at_ (Piles.keep0 h hG) hlt
        have hz := Hw.out _ (List.mem_of_getElem? hp.out)
        have hk' : (k : Int) < (n : Int) := by omega
        go_wp2_with fail
        refine (c_szPile s m r _ hz hr0 (by omega)).mono ?_
        rintro e w1 ⟨q, rfl, hq1, hq, hg⟩
        by_cases hq0 : q < 0
        · go_wp2
          go_ret
          exact ⟨_, rfl, by omega, .inl (by omega), gb_trans hG hg⟩
        · have hq2 : (s.size : Int) ≤ r := by omega
          have hq3 : q ≤ r := by omega
          clear hq
          go_wp2
          go_roundw
          case rel => exact ⟨k + 1, q, by omega, by go_num, rfl, by omega, by omega, gb_trans hG hg, Lib.hid (fun p hm => by
            rw [take_succ_of hp.out] at hm
            rcases List.mem_append.1 hm with hm | hm
            · exact hpre.out p hm
            · rw [List.mem_singleton.1 hm]
              show (s.size : Int) ≤ left
              omega)⟩
          case measure => simp [intOf]; omega
      · obtain rfl : k = n := by omega
        go_wp2
        go_ret
        exact ⟨_, rfl, by omega, .inr ⟨hr0, hr1, by rw [hxl.out]; omega, fun p hm => hpre.out p (by rw [List.take_of_length_le (by rw [hxl.out]; exact Nat.le_refl _)]; exact hm)⟩, hG⟩

theorem c_toPile (s : ByteArray) (m : Int) (w : World) :
    Calls Tryd.prog 24 #[.agg #[.string s, .int .i64 m]] w fun e w' => e = .returned (.agg #[.string s, .int .i64 m]) ∧ w.grownBy w' none := by
  go_enter Tryd.func24, Tryd.ntmps24
  go_wp2
  refine bodyPost_ret (v := .agg #[.string s, .int .i64 m]) (by simp [results, Tryd.results24, go_sem]) rfl ⟨rfl, ?_⟩
  exact gb_alloc (gb_alloc (gb_alloc (gb_refl _ _) _) _) _

theorem pileInfo : (Tryd.prog.info? 48).map (fun i => (i.zero, i.size, i.bytes)) = some (some (.agg #[.string ⟨#[]⟩, .int .i64 0]), 2, 24) := by kernel_rfl
theorem pileE : Elem Tryd.prog 25 48 2 24 (.agg #[.string ⟨#[]⟩, .int .i64 0]) := ⟨Tryd.underlying25, info_parts pileInfo, rfl, by omega⟩
abbrev plEz : Value := .agg #[.string ⟨#[]⟩, .int .i64 0]

set_option maxHeartbeats 1000000 in
theorem c_toPileS (lo : Nat) (A : Option Addr) (n cap : Nat) (ps : List Pl) (w : World) (h : Piles w lo A n cap ps) (hn : n ≤ 2000000) :
    Calls Tryd.prog 8 #[.slice A n cap] w fun e w' => e = .returned (.slice (some ⟨w.heap.size, 0, none⟩) n n) ∧ w.grownBy w' none ∧
      w'.ownsRow w.heap.size 48 2 (.slice (some ⟨w.heap.size, 0, none⟩) n n) n (cellsOf plCells ps) := by
  have hlc := h.1
  have hcm := Sl.max h
  have hxl := Lib.hid h.len
  have hmk := run_mk pileE n (by omega) (by omega)
  have hb0 : Blk (w.alloc (.cells (madeCells (plEz : Value).cells (n * 2)) 48)) w.heap.size 48 (madeCells (plEz : Value).cells (n * 2)) := Blk.new _ _ _
  obtain ⟨cs0, hcs⟩ : ∃ cs, madeCells (plEz : Value).cells (n * 2) = cs := ⟨_, rfl⟩
  have hsz : cs0.size = n * 2 := by rw [← hcs, size_madeCells]
  have hmk' : ∀ wx : World, (Instr.makeSlice 25 (.int .i64 (n : Int)) (.int .i64 (n : Int))).run Tryd.prog wx = .ok (.slice (some ⟨wx.heap.size, 0, none⟩) n n) (wx.alloc (.cells cs0 48)) := fun wx => by rw [hmk wx]; simp only [← hcs]
  clear hmk
  rw [hcs] at hb0
  clear hcs
  have Hsz := Lib.hid hsz
  clear hsz
  go_enter Tryd.func8, Tryd.ntmps8
  go_wp2
  clear hmk'
  go_loopw [4] (fun i wr => ∃ (k : Nat) (cs : Array Value), k ≤ n ∧ i = .int .i64 k ∧ Blk wr w.heap.size 48 cs ∧ Hid (cs.size = n * 2) ∧ Hid (∀ j, j < k * 2 → cs[j]? = (cellsOf plCells ps)[j]?) ∧ w.grownBy wr none) (fun i _ => n - (intOf i).toNat)
  case atStart => exact ⟨0, cs0, Nat.zero_le _, rfl, hb0, Hsz, Lib.hid (by omega), gb_alloc (gb_refl _ _) _⟩
  case round =>
    obtain ⟨k, cs, hk, rfl, hb, hs, hpre, hG⟩ := hrel
    by_cases hlt : k < n
    · obtain ⟨b, off, ⟨s, m⟩, rfl, _, _, hp, m0, m1⟩ := Piles.at_ (Piles.keep0 h hG) hlt
      have hk' : (k : Int) < (n : Int) := by omega
      have hk0 : (0 : Int) ≤ (k : Int) := by omega
      go_wp2_with fail
      refine (c_toPile s m _).mono ?_
      rintro e w1 ⟨rfl, hg⟩
      have hb1 := hb.grown hg (by simp)
      obtain ⟨u0, hu0⟩ := blk_cell hb1 (k := k * 2) (by rw [hs.out]; omega)
      obtain ⟨u1, hu1⟩ := blk_cell hb1 (k := k * 2 + 1) (by rw [hs.out]; omega)
      have hf0 := hb1.frozen (k * 2)
      have hf1 := hb1.frozen (k * 2 + 1)
      go_wp2
      go_roundw
      case rel => exact ⟨k + 1, _, by omega, by go_num, (hb1.set_ (k * 2) (.string s)).set_ (k * 2 + 1) (.int .i64 m), Lib.hid (by rw [Array.size_setIfInBounds, Array.size_setIfInBounds]; exact hs.out), Lib.hid (fun j hj => by
          by_cases hj1 : j = k * 2 + 1
          · subst hj1
            rw [Array.getElem?_setIfInBounds_self_of_lt (by rw [Array.size_setIfInBounds, hs.out]; omega), cellsOf_at plCells_len hp.out (j := 1) (by omega)]
            rfl
          · rw [Array.getElem?_setIfInBounds_ne (fun e => hj1 e.symm)]
            by_cases hj0 : j = k * 2
            · subst hj0
              rw [Array.getElem?_setIfInBounds_self_of_lt (by rw [hs.out]; omega)]
              have := cellsOf_at plCells_len hp.out (j := 0) (by omega)
              rw [Nat.add_zero] at this
              rw [this]
              rfl
            · rw [Array.getElem?_setIfInBounds_ne (fun e => hj0 e.symm)]
              exact hpre.out j (by omega)), gb_setCell (gb_setCell (gb_trans hG hg) (.inr (Nat.le_refl _)) _) (.inr (Nat.le_refl _)) _⟩
      case measure => simp [intOf]; omega
    · obtain rfl : k = n := by omega
      have he : Hid (cs.toList = cellsOf plCells ps) := Lib.hid (by
        apply List.ext_getElem?
        intro j
        by_cases hj : j < k * 2
        · rw [Array.getElem?_toList]
          exact hpre.out j hj
        · rw [List.getElem?_eq_none (by simp; rw [hs.out]; omega), List.getElem?_eq_none (by rw [cellsOf_len plCells_len, hxl.out]; omega)])
      have hown := own_of_blk (lo := w.heap.size) (size := 2) (n := k) hb (by rw [hs.out]) (by omega) (Nat.le_refl _)
      rw [he.out] at hown
      go_wp2
      go_ret
      exact ⟨rfl, hG, hown⟩

theorem c_eqPile (s t : ByteArray) (m q : Int) (w : World) :
    Calls Tryd.prog 31 #[.agg #[.string s, .int .i64 m], .agg #[.string t, .int .i64 q]] w fun e w' => e = .returned (.bool (decide ((s, m) = (t, q)))) ∧ w.grownBy w' none := by
  by_cases hst : s = t
  · subst hst
    by_cases hmq : m = q
    · subst hmq
      go_enter Tryd.func31, Tryd.ntmps31
      go_wp2
      go_ret
      exact ⟨by simp, gb_alloc (gb_alloc (gb_refl _ _) _) _⟩
    · have h1 : (m != q) = true := bne_iff_ne.2 hmq
      have h2 : (m == q) = false := beq_eq_false_iff_ne.2 hmq
      go_enter Tryd.func31, Tryd.ntmps31
      go_wp2
      go_ret
      exact ⟨ret_bool (by simp [hmq]), gb_alloc (gb_alloc (gb_refl _ _) _) _⟩
  · have h1 := str_ne hst
    go_enter Tryd.func31, Tryd.ntmps31
    go_wp2
    go_ret
    exact ⟨ret_bool (by simp [hst]), gb_alloc (gb_alloc (gb_refl _ _) _) _⟩

attribute [local go_sem] flowAct flowOp_def flowUpon
set_option maxHeartbeats 1000000 in
theorem c_eqPileS (lo lo' : Nat) (A B : Option Addr) (n cap m cap' : Nat) (xs ys : List Pl) (w : World) (h : Piles w lo A n cap xs) (h' : Piles w lo' B m cap' ys) :
    Calls Tryd.prog 10 #[.slice A n cap, .slice B m cap'] w fun e w' => e = .returned (.bool (decide (xs = ys))) ∧ w.grownBy w' none := by
  have hlc := h.1
  have hcm := Sl.max h
  have hxl := Lib.hid h.len
  have hlc' := h'.1
  have hcm' := Sl.max h'
  have hyl := Lib.hid h'.len
  by_cases hnm : n = m
  · subst hnm
    go_enter Tryd.func10, Tryd.ntmps10
    go_wp2
    go_loopw [5] (fun i wr => ∃ k : Nat, k ≤ n ∧ i = .int .i64 k ∧ w.grownBy wr none ∧ Hid (xs.take k = ys.take k)) (fun i _ => n - (intOf i).toNat)
    case atStart => exact ⟨0, Nat.zero_le _, rfl, gb_refl _ _, Lib.hid rfl⟩
    case round =>
      obtain ⟨k, hk, rfl, hG, hpre⟩ := hrel
      by_cases hlt : k < n
      · obtain ⟨b, off, ⟨s, p⟩, rfl, _, _, hz, m0, m1⟩ := Piles.at_ (Piles.keep0 h hG) hlt
        obtain ⟨b', off', ⟨t, q⟩, rfl, _, _, hz', m0', m1'⟩ := Piles.at_ (Piles.keep0 h' hG) hlt
        have hk' : (k : Int) < (n : Int) := by omega
        have hk0 : (0 : Int) ≤ (k : Int) := by omega
        obtain ⟨D, hD⟩ : ∃ D, decide ((s, p) = (t, q)) = D := ⟨_, rfl⟩
        have HD := Lib.hid hD
        clear hD
        go_wp2_with fail
        refine wp_known wr [.slice (some ⟨b, off, none⟩) n cap, .int .i64 k, .pointer (some ⟨b, off + k * 2, none⟩), .agg #[.string s, .int .i64 p], .slice (some ⟨b', off', none⟩) n cap', .int .i64 k, .pointer (some ⟨b', off' + k * 2, none⟩), .agg #[.string t, .int .i64 q], .bool D, .bool !D] (gb_refl _ _) (by kernel_rfl) (by kernel_rfl) ?_ ?_
        · refine ⟨?_, ?_, ?_, ?_, ?_, ?_, ?_, ?_, ?_, ?_, trivial⟩
          all_goals
            intro n u x hn hC hp
            simp [flowPreds, Region.binds, fKnown] at hp
            have n0 := gb_cell hC m0 (by simp)
            have n1 := gb_cell hC m1 (by simp)
            have n0' := gb_cell hC m0' (by simp)
            have n1' := gb_cell hC m1' (by simp)
            go_simp
          all_goals try exact ⟨gb_refl _ _, rfl⟩
          · refine (c_eqPile s t p q _).mono ?_
            rintro e y ⟨rfl, hg⟩
            exact ⟨_, rfl, hg, by rw [HD.out]; rfl⟩
        · intro u x hC hp'
          have e1 : u 9 = .bool !D := hp' 9 (by decide)
          cases D with
          | true =>
            have hst := of_decide_eq_true HD.out
            have Hst := Lib.hid hst
            clear hst
            go_simp
            go_wp2
            go_roundw
            case rel => exact ⟨k + 1, by omega, by go_num, gb_trans hG hC, Lib.hid (by rw [take_succ_of hz.out, take_succ_of hz'.out, hpre.out, Hst.out])⟩
            case measure => simp [intOf]; omega
          | false =>
            have hst := of_decide_eq_false HD.out
            have Hst := Lib.hid hst
            clear hst
            go_simp
            go_wp2
            go_ret
            exact ⟨ret_bool (decide_eq_false (fun e => Hst.out (by subst e; have := hz.out.symm.trans hz'.out; injection this))).symm, gb_trans hG hC⟩
      · obtain rfl : k = n := by omega
        go_wp2
        go_ret
        exact ⟨ret_bool (decide_eq_true (by have := hpre.out; rwa [List.take_of_length_le (by rw [hxl.out]; exact Nat.le_refl _), List.take_of_length_le (by rw [hyl.out]; exact Nat.le_refl _)] at this)).symm, hG⟩
  · have hne : ((n : Int) != (m : Int)) = true := by rw [bne_iff_ne]; omega
    go_enter Tryd.func10, Tryd.ntmps10
    go_wp2
    go_ret
    exact ⟨ret_bool (decide_eq_false (fun e => hnm (by rw [← hxl.out, ← hyl.out, e]))).symm, gb_refl _ _⟩
end Go.Proofs.YtipnalfkpalieaaDoor
