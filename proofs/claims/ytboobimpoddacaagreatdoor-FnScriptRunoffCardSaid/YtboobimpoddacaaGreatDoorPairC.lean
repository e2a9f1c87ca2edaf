/-
  How many ballots prefer each candidate to each other one: pairCounts of the program, l13Counts of the reference.
-/
import Derived.Test.YtboobimpoddacaaGreatDoorPrefs
namespace Go.Proofs.YtboobimpoddacaaGreatDoor
open Go.RowKit
set_option linter.unusedVariables false

theorem cnt_take {ps : List Pl} {k : Nat} {s : ByteArray} {q : Int} {x y : Nat} {V : Bool} (h : ps[k]? = some (s, q)) (hV : pref (ballotOf s) (x : Int) (y : Int) = V) : cnt (ps.take (k + 1)) x y = if V then cnt (ps.take k) x y + q else cnt (ps.take k) x y := by
  rw [take_succ_of h, cnt_snoc, hV]
theorem cnt_tk_bound {ps : List Pl} (h : ∀ p ∈ ps, 0 ≤ p.2 ∧ p.2 ≤ 99) (k x y : Nat) (hk : k ≤ 12) : 0 ≤ cnt (ps.take k) x y ∧ cnt (ps.take k) x y ≤ 1188 := by
  have := cnt_bound x y (ps.take k) (fun p hp => h p (List.mem_of_mem_take hp))
  have hl : (ps.take k).length ≤ k := by rw [List.length_take]; omega
  omega

attribute [local go_sem] flowAct flowOp_def flowUpon
set_option maxHeartbeats 8000000 in
theorem c_pairCountsO (lo : Nat) (A : Option Addr) (np cap N : Nat) (ps : List Pl) (w : World) (h : Piles w lo A np cap ps) (hs : ∀ p ∈ ps, p.1.size ≤ 2000000) (hfit : fitOK ps N = true) :
    Calls Tryz.prog 58 #[.slice A np cap, .int .i64 N] w fun e w' => ∃ D hi hs, e = .returned (.slice D N N) ∧ w.grownBy w' none ∧ OwnRows 3 62 w' w.heap.size hi D N N (tabOf N (cnt ps)) hs := by
  have hlc := h.1
  have hcm := Sl.max h
  have hxl := Lib.hid h.len
  have Hs := Lib.hid hs
  have hmany := Lib.hid (fit_many hfit).1
  have hN : 1 ≤ N ∧ N ≤ 5 := by have := (fit_many hfit).2.2; omega
  unfold fitOK at hfit
  rw [Bool.and_eq_true, Bool.and_eq_true] at hfit
  have hn12 : np ≤ 12 := by have := ((pilesOK_iff ps).1 hfit.1.2).2.2; have := hxl.out; omega
  have hall := Lib.hid ((pilesOK_iff ps).1 hfit.1.2).1
  obtain ⟨hN1, hN5⟩ := hN
  clear hs hfit
  obtain ⟨w0, hmk, hg0, hT0⟩ := mk_tab N (by omega) w
  have hw0 : w.heap.size < w0.heap.size := by have := hT0.row.lt w.heap.size rfl; exact this.2
  go_enter Tryz.func58, Tryz.ntmps58
  go_wp2
  clear hmk
  go_loopw [14] (fun i wr => ∃ (x hi : Nat) (hs : List Hd), x ≤ N ∧ i = .int .i64 x ∧ w.grownBy wr none ∧ hi ≤ wr.heap.size ∧ w.heap.size < hi ∧ OwnRows 3 62 wr w.heap.size hi (some ⟨w.heap.size, 0, none⟩) N N (upTo N x (cnt ps) []) hs) (fun i _ => N - (intOf i).toNat)
  case atStart => exact ⟨0, w0.heap.size, _, Nat.zero_le _, rfl, hg0, Nat.le_refl _, hw0, by rw [upTo_zero]; exact hT0⟩
  case round =>
    obtain ⟨x, hi, hs, hx, rfl, hG, hhi, hgi, hT⟩ := hrel
    rename World => wr
    clear hT0 hg0 hw0
    by_cases hlt : x < N
    · have hx' : (x : Int) < (N : Int) := by omega
      have hx0 : (0 : Int) ≤ (x : Int) := by omega
      obtain ⟨w1, hmk, hg1, hrow1⟩ := mk_ints N (by omega) wr
      have hT1 := hT.keep hg1
      obtain ⟨u1, hc1⟩ := own_cell hT1.row hlt
      have hf1 := hT1.row.frozenAt x
      have hhi1 : hi ≤ w1.heap.size := Nat.le_trans hhi hg1.size
      have hz1 : wr.heap.size < w1.heap.size := (hrow1.lt wr.heap.size rfl).2
      have hsw := hT1.swap (g := w.heap.size) rfl (ys := rowTo N 0 (cnt ps x) 0) (d := (some ⟨wr.heap.size, 0, none⟩, N)) hlt (by
        rw [rowTo_len, rowTo_zero]
        exact own_lo hrow1 hhi) (by omega) hhi1
      rw [rowTo_len, upTo_set] at hsw
      obtain ⟨hT2, hg2⟩ := hsw
      have hd2 : Hid ((hs.set x (some ⟨wr.heap.size, 0, none⟩, N))[x]? = some (some ⟨wr.heap.size, 0, none⟩, N)) := Lib.hid (List.getElem?_set_self (by rw [hT.len, upTo_len]; exact hlt))
      obtain ⟨hs2, ehs2⟩ : ∃ hs2, hs.set x (some ⟨wr.heap.size, 0, none⟩, N) = hs2 := ⟨_, rfl⟩
      rw [ehs2] at hT2 hd2
      have hG1 := gb_trans hG hg1
      have hG2 := gb_setCell (p := ⟨w.heap.size, x, none⟩) hG1 (.inr (Nat.le_refl _)) (.slice (some ⟨wr.heap.size, 0, none⟩) N N)
      have hz2 : w1.heap.size ≤ (w1.setCell ⟨w.heap.size, x, none⟩ (.slice (some ⟨wr.heap.size, 0, none⟩) N N)).heap.size := hg2.size
      obtain ⟨gd, hgd⟩ : ∃ gd, wr.heap.size = gd := ⟨_, rfl⟩
      rw [hgd] at hT2 hd2 hz2 hG2
      obtain ⟨H2, hH2⟩ : ∃ H2, w1.heap.size = H2 := ⟨_, rfl⟩
      rw [hH2] at hT2 hz2
      have HW := Lib.hid (And.intro hgd hH2)
      have hgw : w.heap.size ≤ gd := by rw [← hgd]; exact hG.size
      have hgdH : gd < H2 := by rw [← hgd, ← hH2]; exact hz1
      have hwH : w.heap.size < H2 := by omega
      clear hT hT1 ehs2 hG1 hg2 hrow1 hhi hhi1 hG hg1 hz1
      go_wp2
      clear hmk hc1 hf1
      try rw [hgd]
      go_loopw [23] (fun i wq => ∃ y : Nat, y ≤ N ∧ i = .int .i64 y ∧ w.grownBy wq none ∧ H2 ≤ wq.heap.size ∧ OwnRows 3 62 wq w.heap.size H2 (some ⟨w.heap.size, 0, none⟩) N N (upTo N x (cnt ps) (rowTo N y (cnt ps x) 0)) hs2) (fun i _ => N - (intOf i).toNat)
      case atStart => exact ⟨0, Nat.zero_le _, rfl, hG2, hz2, hT2⟩
      case round =>
        obtain ⟨y, hy, rfl, hGq, hzq, hTq⟩ := hrel
        rename World => wq
        clear hT2 hG2 hz2
        by_cases hylt : y < N
        · have hy' : (y : Int) < (N : Int) := by omega
          have hy0 : (0 : Int) ≤ (y : Int) := by omega
          go_wp2
          go_loopw [28] (fun i wk => ∃ (k : Nat), k ≤ np ∧ i = .int .i64 k ∧ w.grownBy wk none ∧ H2 ≤ wk.heap.size ∧ OwnRows 3 62 wk w.heap.size H2 (some ⟨w.heap.size, 0, none⟩) N N (upTo N x (cnt ps) (rowTo N y (cnt ps x) (cnt (ps.take k) x y))) hs2) (fun i _ => np - (intOf i).toNat)
          case atStart => exact ⟨0, Nat.zero_le _, rfl, hGq, hzq, hTq⟩
          case round =>
            obtain ⟨k, hk, rfl, hGk, hzk, hTk⟩ := hrel
            rename World => wk
            clear hTq hGq hzq
            by_cases hklt : k < np
            · obtain ⟨b, off, ⟨s, q⟩, rfl, _, _, hz, p0, p1⟩ := Piles.at_ (h.keep0 hGk) hklt
              have hk' : (k : Int) < (np : Int) := by omega
              have hk0 : (0 : Int) ≤ (k : Int) := by omega
              have hmem := List.mem_of_getElem? hz.out
              have hpb := plOK_ballot (hall.out _ hmem)
              have hssz := Hs.out _ hmem
              have hqb := hmany.out _ hmem
              obtain ⟨hq0, hq1⟩ : 0 ≤ q ∧ q ≤ 99 := hqb
              have hga := gb_alloc (gb_refl wk none) (.cells #[.string s, .int .i64 q] 65)
              have hBk := Blk.new wk 65 #[.string s, .int .i64 q]
              obtain ⟨V, hV⟩ : ∃ V, pref (ballotOf s) (x : Int) (y : Int) = V := ⟨_, rfl⟩
              have HV := Lib.hid hV
              have hstep := Lib.hid (cnt_take (x := x) (y := y) hz.out hV)
              have hFb := cnt_tk_bound hmany.out k x y (by omega)
              obtain ⟨F, hF⟩ : ∃ F, cnt (ps.take k) x y = F := ⟨_, rfl⟩
              rw [hF] at hstep hFb hTk
              obtain ⟨hF0, hF1⟩ := hFb
              have hTx := upTo_at (cnt ps) (rowTo N y (cnt ps x) F) hlt
              have hrx := hTk.rows x _ _ hTx hd2.out
              rw [rowTo_len] at hrx
              have m0 : wk.cell? ⟨w.heap.size, x, none⟩ = some (.slice (some ⟨gd, 0, none⟩) N N) := by
                rw [hTk.row.cellAt x (by omega)]
                have := tabCells_at hTx hd2.out
                rw [rowTo_len] at this
                exact this
              have m1 : wk.cell? ⟨gd, y, none⟩ = some (.int .i64 F) := by
                have := hrx.cellAt y (by omega)
                rw [List.getElem?_map, rowTo_at _ _ hylt] at this
                exact this
              have Hend := Lib.hid (fun (z : World) (hz : wk.grownBy z none) =>
                (hTk.keep hz).setRow (w' := z.setCell ⟨gd, y, none⟩ (.int .i64 (F + q))) (ys' := rowTo N y (cnt ps x) (F + q)) hTx hd2.out (by rw [rowTo_len, rowTo_len]) (by rw [rowTo_len]; exact ((own_below hrx hz).stored y (.int .i64 (F + q))).2) (by
                  rw [rowTo_len]
                  have := ((own_below hrx hz).stored y (.int .i64 (F + q))).1
                  rw [← List.map_set, rowTo_set] at this
                  exact this))
              have HfK := Lib.hid (fun (z : World) (hz : wk.grownBy z none) => (own_below hrx hz).frozenAt y)
              have HT := Lib.hid hTk
              clear hmem hV hF hTx hrx hTk
              go_wp2_with fail
              refine (c_ballot s q _ hssz hpb).mono ?_
              rintro e w3 ⟨B3, c3, rfl, hg3, hI3⟩
              have hB3 := hBk.grown hg3 (by simp)
              have hgk3 := gb_trans hga hg3
              obtain ⟨L, hL⟩ : ∃ L, s.size = L := ⟨_, rfl⟩
              rw [hL] at hI3
              rw [hL]
              have hcall := c_impl_BallotPrefers _ B3 L c3 (ballotOf s) (x : Int) (y : Int) w3 hI3 hpb
              rw [HV.out] at hcall
              have Hc := Lib.hid hcall
              have c1 := hB3.cell 1
              clear hcall hL hga hBk hpb hssz
              go_wp2_with fail
              refine Hc.out.mono ?_
              rintro e w4 ⟨rfl, rfl⟩
              clear Hc
              have hG3 := gb_trans hGk hgk3
              have hz3 : H2 ≤ w3.heap.size := Nat.le_trans hzk hgk3.size
              cases V with
              | false =>
                have hTe := HT.out.keep hgk3
                clear Hend HfK m0 m1
                go_wp2
                go_roundw
                case rel => exact ⟨k + 1, by omega, by go_num, hG3, hz3, by rw [hstep.out]; exact hTe⟩
                case measure => simp [intOf]; omega
              | true =>
                have m03 := gb_cell hgk3 m0 (by simp)
                have m13 := gb_cell hgk3 m1 (by simp)
                have hadd : IntKind.i64.wrap (F + q) = F + q := IntWalk.i64_in _ (by omega)
                clear m0 m1 HT
                go_wp2_with fail
                refine wp_known_tail w3 [_, _, _, _, _, _, _, _, _, _, _] _ [.slice (some ⟨w.heap.size, 0, none⟩) N N, .int .i64 x, .pointer (some ⟨w.heap.size, x, none⟩), .slice (some ⟨gd, 0, none⟩) N N, .int .i64 y, .pointer (some ⟨gd, y, none⟩), .int .i64 F, .pointer (some ⟨wk.heap.size, 1, none⟩), .int .i64 q, .int .i64 (F + q), .pointer (some ⟨gd, y, none⟩)] rfl (gb_refl _ _) (by kernel_rfl) (by kernel_rfl) (by kernel_rfl) ?_ ?_
                · refine ⟨?_, ?_, ?_, ?_, ?_, ?_, ?_, ?_, ?_, ?_, ?_, trivial⟩
                  all_goals
                    intro nn u z hn hC hp
                    simp [flowPreds, Region.binds, fKnown] at hp
                    have n0 := gb_cell hC m03 (by simp)
                    have n1 := gb_cell hC m13 (by simp)
                    have n2 := gb_cell hC c1 (by simp)
                    go_simp
                  all_goals try exact ⟨gb_refl _ _, rfl⟩
                · intro u z hC hp'
                  have e9 : u 9 = .int .i64 (F + q) := hp' 9 (by decide)
                  have e10 : u 10 = .pointer (some ⟨gd, y, none⟩) := hp' 10 (by decide)
                  have hgz := gb_trans hgk3 hC
                  have hfz := HfK.out z hgz
                  have hTz := (Hend.out z hgz).1
                  have n1 := gb_cell hC m13 (by simp)
                  rw [upTo_set] at hTz
                  have hGz := gb_setCell (p := ⟨gd, y, none⟩) (gb_trans hG3 hC) (.inr hgw) (.int .i64 (F + q))
                  have hzz : H2 ≤ (z.setCell ⟨gd, y, none⟩ (.int .i64 (F + q))).heap.size := by
                    have := (gb_setCell (p := ⟨gd, y, none⟩) (gb_refl z (some gd)) (.inl rfl) (.int .i64 (F + q))).size
                    have := hC.size
                    omega
                  clear Hend HfK
                  go_simp
                  go_wp2
                  go_roundw
                  case rel => exact ⟨k + 1, by omega, by go_num, hGz, hzz, by rw [hstep.out]; exact hTz⟩
                  case measure => simp [intOf]; omega
            · obtain rfl : k = np := by omega
              have hTn : OwnRows 3 62 wk w.heap.size H2 (some ⟨w.heap.size, 0, none⟩) N N (upTo N x (cnt ps) (rowTo N (y + 1) (cnt ps x) 0)) hs2 := by
                rw [List.take_of_length_le (by rw [hxl.out]; exact Nat.le_refl _), rowTo_next] at hTk
                exact hTk
              clear hTk
              go_wp2
              go_roundw
              case rel => exact ⟨y + 1, by omega, by go_num, hGk, hzk, hTn⟩
              case measure => simp [intOf]; omega
        · obtain rfl : y = N := by omega
          have hTn : OwnRows 3 62 wq w.heap.size H2 (some ⟨w.heap.size, 0, none⟩) y y (upTo y (x + 1) (cnt ps) []) hs2 := by
            rw [rowTo_all, upTo_next] at hTq
            exact hTq
          clear hTq
          go_wp2
          go_roundw
          case rel => exact ⟨x + 1, H2, hs2, by omega, by go_num, hGq, hzq, hwH, hTn⟩
          case measure => simp [intOf]; omega
    · obtain rfl : x = N := by omega
      rw [upTo_all] at hT
      go_wp2
      go_ret
      exact ⟨_, _, _, rfl, hG, hT⟩
theorem c_pairCounts (lo : Nat) (A : Option Addr) (np cap N : Nat) (ps : List Pl) (w : World) (h : Piles w lo A np cap ps) (hs : ∀ p ∈ ps, p.1.size ≤ 2000000) (hfit : fitOK ps N = true) :
    Calls Tryz.prog 58 #[.slice A np cap, .int .i64 N] w fun e w' => ∃ D, e = .returned (.slice D N N) ∧ w.grownBy w' none ∧ IRows w' w.heap.size D N N (tabOf N (cnt ps)) := by
  refine (c_pairCountsO lo A np cap N ps w h hs hfit).mono ?_
  rintro e w' ⟨D, hi, hds, rfl, hg, hT⟩
  exact ⟨D, rfl, hg, hT.irows⟩
end Go.Proofs.YtboobimpoddacaaGreatDoor
