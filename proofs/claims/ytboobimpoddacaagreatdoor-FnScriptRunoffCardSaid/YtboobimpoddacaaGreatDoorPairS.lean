/-
  How many ballots prefer each candidate to each other one: l13Counts of the reference.
-/
import Derived.Test.YtboobimpoddacaaGreatDoorPairC
namespace Go.Proofs.YtboobimpoddacaaGreatDoor
open Go.RowKit
set_option linter.unusedVariables false

/-- Row x of the counts: ahead of y the first k + 1 piles are counted, from y on k. -/
def cRow (ps : List Pl) (n x k y : Nat) : Row := tabRow n fun j => if j < y then cnt (ps.take (k + 1)) x j else cnt (ps.take k) x j
theorem cRow_len (ps : List Pl) (n x k y : Nat) : (cRow ps n x k y).length = n := tabRow_len _ _
theorem cRow_at (ps : List Pl) {n x k y : Nat} (h : y < n) : (cRow ps n x k y)[y]? = some (cnt (ps.take k) x y) := by
  unfold cRow
  rw [tabRow_at _ h]
  simp
theorem cRow_set (ps : List Pl) {n x k y : Nat} : (cRow ps n x k y).set y (cnt (ps.take (k + 1)) x y) = cRow ps n x k (y + 1) := by
  unfold cRow
  rw [tabRow_set]
  exact tabRow_ext (fun j _ => by
    by_cases h : j = y
    · subst h; simp
    · by_cases h2 : j < y
      · simp [h, h2]; omega
      · have : ¬ j < y + 1 := by omega
        simp [h, h2, this])
theorem cRow_skip (ps : List Pl) {n x k y : Nat} (h : cnt (ps.take (k + 1)) x y = cnt (ps.take k) x y) : cRow ps n x k y = cRow ps n x k (y + 1) := tabRow_ext (fun j _ => by
  by_cases h1 : j = y
  · subst h1; simp [h]
  · by_cases h2 : j < y
    · rw [if_pos h2, if_pos (by omega)]
    · rw [if_neg h2, if_neg (by omega)])
theorem cRow_next (ps : List Pl) (n x k : Nat) : cRow ps n x k n = cRow ps n x (k + 1) 0 := tabRow_ext (fun j hj => by rw [if_pos hj, if_neg (by omega)])
theorem cRow_zero (ps : List Pl) (n x : Nat) : cRow ps n x 0 0 = List.replicate n 0 := by
  rw [← rowTo_zero n (fun _ => 0)]
  exact tabRow_ext (fun j hj => by simp [cnt])
theorem cRow_all (ps : List Pl) (n x k : Nat) (h : ps.length ≤ k) : cRow ps n x k 0 = tabRow n (cnt ps x) := tabRow_ext (fun j hj => by rw [if_neg (by omega), List.take_of_length_le h])
theorem tabOf_take (n x : Nat) (f : Nat → Nat → Int) (h : x < n) : (tabOf n f).take (x + 1) = (tabOf n f).take x ++ [tabRow n (f x)] := take_succ_of (tabOf_at f h)

attribute [local go_sem] flowAct flowOp_def flowUpon
set_option maxHeartbeats 8000000 in
theorem c_l13Counts (lo : Nat) (A0 : Option Addr) (np cap N : Nat) (ps : List Pl) (w : World) (h : Piles w lo A0 np cap ps) (hs : ∀ p ∈ ps, p.1.size ≤ 2000000) (hfit : fitOK ps N = true) :
    Calls Tryz.prog 103 #[.slice A0 np cap, .int .i64 N] w fun e w' => ∃ D c, e = .returned (.slice D N c) ∧ w.grownBy w' none ∧ IRows w' w.heap.size D N c (tabOf N (cnt ps)) := by
  have hlc := h.1
  have hcm := Sl.max h
  have hxl := Lib.hid h.len
  have Hs := Lib.hid hs
  have hmany := Lib.hid (fit_many hfit).1
  have hN : 1 ≤ N ∧ N ≤ 5 := by have := (fit_many hfit).2.2; omega
  unfold fitOK at hfit
  rw [Bool.and_eq_true, Bool.and_eq_true] at hfit
  have hn12 : np ≤ 12 := by have := ((pilesOK_iff ps).1 hfit.1.2).2.2; have := hxl.out; omega
  have hall := Lib.hid ((pilesOK_iff ps).1 hfit.1.2).1
  obtain ⟨hN1, hN5⟩ := hN
  clear hs hfit
  have hT0 := OwnRows.empty 3 62 w w.heap.size (Nat.le_refl _)
  go_enter Tryz.func103, Tryz.ntmps103
  go_wp2
  go_loopw [5, 6] (fun v i wr => ∃ (x hi : Nat) (A : Option Addr) (cA : Nat) (hs : List Hd), x ≤ N ∧ i = .int .i64 x ∧ v = .slice A x cA ∧ w.grownBy wr none ∧ hi ≤ wr.heap.size ∧ w.heap.size ≤ hi ∧ OwnRows 3 62 wr w.heap.size hi A x cA ((tabOf N (cnt ps)).take x) hs) (fun _ i _ => N - (intOf i).toNat)
  case atStart => exact ⟨0, w.heap.size + 1, _, _, _, Nat.zero_le _, rfl, rfl, gb_alloc (gb_refl _ _) _, by simp, by omega, hT0⟩
  case round =>
    obtain ⟨x, hi, A, cA, hs, hx, rfl, rfl, hG, hhi, hwi, hT⟩ := hrel
    rename World => wr
    clear hT0
    by_cases hlt : x < N
    · have hx' : (x : Int) < (N : Int) := by omega
      have hx0 : (0 : Int) ≤ (x : Int) := by omega
      obtain ⟨w1, hmk, hg1, hrow1⟩ := mk_ints N (by omega) wr
      rw [← cRow_zero ps N x] at hrow1
      obtain ⟨gd, hgd⟩ : ∃ gd, wr.heap.size = gd := ⟨_, rfl⟩
      have Hgd := Lib.hid hgd
      have hwg : w.heap.size ≤ gd := by rw [← hgd]; exact hG.size
      have hbase : wr.heap.size ≤ gd := Nat.le_of_eq hgd
      rw [hgd] at hrow1 hmk hhi
      clear hgd
      go_wp2
      clear hmk
      go_loopw [8] (fun i wk => ∃ (k : Nat), k ≤ np ∧ i = .int .i64 k ∧ wr.grownBy wk none ∧ wk.ownsRow gd 3 1 (.slice (some ⟨gd, 0, none⟩) N N) N ((cRow ps N x k 0).map (Value.int .i64))) (fun i _ => np - (intOf i).toNat)
      case atStart => exact ⟨0, Nat.zero_le _, rfl, hg1, hrow1⟩
      case round =>
        obtain ⟨k, hk, rfl, hGk, hrk⟩ := hrel
        rename World => wk
        clear hrow1 hg1
        by_cases hklt : k < np
        · obtain ⟨b, off, ⟨s, q⟩, rfl, _, _, hz, p0, p1⟩ := Piles.at_ (h.keep0 (gb_trans hG hGk)) hklt
          have Hb : Hid (gd ≠ b ∧ b ≠ gd) := Lib.hid (by
            obtain ⟨b', off', _, e, _, hbl, _⟩ := Piles.at_ h hklt
            injection e with e
            injection e with e1 e2
            omega)
          have hk' : (k : Int) < (np : Int) := by omega
          have hk0 : (0 : Int) ≤ (k : Int) := by omega
          have hmem := List.mem_of_getElem? hz.out
          have hpb := plOK_ballot (hall.out _ hmem)
          have hssz := Hs.out _ hmem
          obtain ⟨hq0, hq1⟩ : 0 ≤ q ∧ q ≤ 99 := hmany.out _ hmem
          have hcall := c_spec_BallotParse s wk hssz
          unfold ParseRes at hcall
          rw [if_pos hpb, if_pos hpb, hpb] at hcall
          obtain ⟨L, hL⟩ : ∃ L, s.size = L := ⟨_, rfl⟩
          rw [hL] at hcall
          have Hc := Lib.hid hcall
          clear hmem hcall hL hssz
          go_wp2_with fail
          refine Hc.out.mono ?_
          rintro e w3 ⟨B3, c3, rfl, hg3, ho3⟩
          clear Hc
          have hI3 : Ints w3 wk.heap.size B3 L c3 (ballotOf s) := Sl.own ho3
          have hG3 := gb_trans hGk hg3
          have hr3 := own_below hrk hg3
          have p13 := gb_cell hg3 p1 (by simp)
          have hgdk : gd < wk.heap.size := (hrk.lt gd rfl).2
          clear hrk hg3 ho3 p0 p1 hGk
          go_wp2
          go_loopw [11] (fun i wy => ∃ (y : Nat), y ≤ N ∧ i = .int .i64 y ∧ wr.grownBy wy none ∧ w3.grownBy wy (some gd) ∧ wy.ownsRow gd 3 1 (.slice (some ⟨gd, 0, none⟩) N N) N ((cRow ps N x k y).map (Value.int .i64))) (fun i _ => N - (intOf i).toNat)
          case atStart => exact ⟨0, Nat.zero_le _, rfl, hG3, gb_refl _ _, hr3⟩
          case round =>
            obtain ⟨y, hy, rfl, hGy, hgy, hry⟩ := hrel
            rename World => wy
            clear hr3
            by_cases hylt : y < N
            · have hy' : (y : Int) < (N : Int) := by omega
              have hy0 : (0 : Int) ≤ (y : Int) := by omega
              obtain ⟨V, hV⟩ : ∃ V, pref (ballotOf s) (x : Int) (y : Int) = V := ⟨_, rfl⟩
              have hstep := Lib.hid (cnt_take (x := x) (y := y) hz.out hV)
              have hFb := cnt_tk_bound hmany.out k x y (by omega)
              obtain ⟨F, hF⟩ : ∃ F, cnt (ps.take k) x y = F := ⟨_, rfl⟩
              have HF := Lib.hid hF
              rw [hF] at hstep hFb
              obtain ⟨hF0, hF1⟩ := hFb
              have m1 : wy.cell? ⟨gd, y, none⟩ = some (.int .i64 F) := by
                have := hry.cellAt y (by omega)
                rw [List.getElem?_map, cRow_at _ hylt, hF] at this
                exact this
              have hIy : Ints wy w3.heap.size B3 L c3 (ballotOf s) → True := fun _ => trivial
              have hIb : Ints wy wk.heap.size B3 L c3 (ballotOf s) := by
                refine Sl.keep hI3 hgy ?_
                intro g e
                injection e with e
                omega
              have hcall := c_spec_BallotPrefers _ B3 L c3 (ballotOf s) (x : Int) (y : Int) wy hIb hpb
              rw [hV] at hcall
              have Hc := Lib.hid hcall
              clear hcall hV hF hIb hIy
              go_wp2_with fail
              refine Hc.out.mono ?_
              rintro e w4 ⟨rfl, hg4⟩
              clear Hc
              have hG4 := gb_trans hGy hg4
              have hg34 : w3.grownBy w4 (some gd) := gb_trans hgy (gb_mono hg4 _)
              have hr4 := own_below hry hg4
              cases V with
              | false =>
                have hsk : Hid (cRow ps N x k y = cRow ps N x k (y + 1)) := Lib.hid (cRow_skip ps (by rw [hstep.out, HF.out]; rfl))
                clear hry m1
                go_wp2
                go_roundw
                case rel => exact ⟨y + 1, by omega, by go_num, hG4, hg34, by rw [← hsk.out]; exact hr4⟩
                case measure => simp [intOf]; omega
              | true =>
                have m14 := gb_cell hg4 m1 (by simp)
                have p14 := gb_cell hg34 p13 (by
                  intro e
                  injection e with e
                  exact Hb.out.2 e)
                have hadd : IntKind.i64.wrap (F + q) = F + q := IntWalk.i64_in _ (by omega)
                have HfK := Lib.hid (fun (z : World) (hz : w4.grownBy z none) => (own_below hr4 hz).frozenAt y)
                have HsK := Lib.hid (fun (z : World) (hz : w4.grownBy z none) => show (z.setCell ⟨gd, y, none⟩ (.int .i64 (F + q))).ownsRow gd 3 1 (.slice (some ⟨gd, 0, none⟩) N N) N ((cRow ps N x k (y + 1)).map (Value.int .i64)) from by
                  have := ((own_below hr4 hz).stored y (.int .i64 (F + q))).1
                  have e : cnt (ps.take (k + 1)) x y = F + q := by rw [hstep.out]; rfl
                  rw [← e, ← List.map_set, cRow_set, e] at this
                  exact this)
                clear hry m1 hr4
                go_wp2_with fail
                refine wp_known_tail w4 [_, _, _, _, _, _, _, _, _, _, _, _, _] _ [.slice (some ⟨gd, 0, none⟩) N N, .int .i64 y, .slice (some ⟨gd, 0, none⟩) N N, .int .i64 y, .pointer (some ⟨gd, y, none⟩), .int .i64 F, .slice (some ⟨b, off, none⟩) np cap, .int .i64 k, .pointer (some ⟨b, off + k * 2, none⟩), .pointer (some ⟨b, off + k * 2 + 1, none⟩), .int .i64 q, .int .i64 (F + q), .pointer (some ⟨gd, y, none⟩)] rfl (gb_refl _ _) (by kernel_rfl) (by kernel_rfl) (by kernel_rfl) ?_ ?_
                · refine ⟨?_, ?_, ?_, ?_, ?_, ?_, ?_, ?_, ?_, ?_, ?_, ?_, ?_, trivial⟩
                  all_goals
                    intro nn u z hn hC hp
                    simp [flowPreds, Region.binds, fKnown] at hp
                    have n1 := gb_cell hC m14 (by simp)
                    have n2 := gb_cell hC p14 (by simp)
                    go_simp
                  all_goals try exact ⟨gb_refl _ _, rfl⟩
                · intro u z hC hp'
                  have e9 : u 11 = .int .i64 (F + q) := hp' 11 (by decide)
                  have e10 : u 12 = .pointer (some ⟨gd, y, none⟩) := hp' 12 (by decide)
                  have hfz := HfK.out z hC
                  have hsz := HsK.out z hC
                  have n1 := gb_cell hC m14 (by simp)
                  have hGz := gb_setCell (p := ⟨gd, y, none⟩) (gb_trans hG4 hC) (.inr hbase) (.int .i64 (F + q))
                  have hgz := gb_setCell (p := ⟨gd, y, none⟩) (gb_trans hg34 (gb_mono hC _)) (.inl rfl) (.int .i64 (F + q))
                  clear HfK HsK
                  go_simp
                  go_wp2
                  go_roundw
                  case rel => exact ⟨y + 1, by omega, by go_num, hGz, hgz, hsz⟩
                  case measure => simp [intOf]; omega
            · obtain rfl : y = N := by omega
              have hrn : wy.ownsRow gd 3 1 (.slice (some ⟨gd, 0, none⟩) y y) y ((cRow ps y x (k + 1) 0).map (Value.int .i64)) := by rw [← cRow_next]; exact hry
              clear hry
              go_wp2
              go_roundw
              case rel => exact ⟨k + 1, by omega, by go_num, hGy, hrn⟩
              case measure => simp [intOf]; omega
        · obtain rfl : k = np := by omega
          rw [cRow_all ps N x k (by rw [hxl.out]; exact Nat.le_refl _)] at hrk
          have hTk := hT.keep hGk
          have hGw := gb_trans hG hGk
          have hhk : hi ≤ wk.heap.size := Nat.le_trans hhi (Nat.le_of_lt (hrk.lt gd rfl).2)
          have hrowT := hTk.row
          have HT := Lib.hid hTk
          have Hr := Lib.hid hrk
          have hszk := hGw.size
          clear hT hTk hrk
          go_wp2_with (at_builtin; refine wpList_app intsE rfl _ _ rfl w.heap.size x _ _ rfl hrowT [_] rfl rfl (by simp [Value.oneCell']) (by omega) (by omega) hszk ?_; intro A' c' w5 hown5 hb5 hg5 hat5)
          have hpu := HT.out.push (ys := tabRow N (cnt ps x)) (d := (some ⟨gd, 0, none⟩, N)) (by rw [tabRow_len]; exact own_lo Hr.out hhi) hwi (by rw [tabRow_len]; exact hown5) hg5 hat5 hhk
          rw [← tabOf_take N x _ hlt] at hpu
          have hG5 := gb_of_below ((gb_below hGw).trans hb5) none
          have hwi5 := hG5.size
          go_roundw
          case rel => exact ⟨x + 1, w5.heap.size, A', c', _, by omega, by go_num, rfl, hG5, Nat.le_refl _, hwi5, hpu⟩
          case measure => simp [intOf]; omega
    · obtain rfl : x = N := by omega
      rw [List.take_of_length_le (by rw [tabOf_len]; exact Nat.le_refl _)] at hT
      have hI := hT.irows
      go_wp2
      go_ret
      exact ⟨_, _, rfl, hG, hI⟩
end Go.Proofs.YtboobimpoddacaaGreatDoor
