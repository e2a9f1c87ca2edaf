/-
  The strengths of the strongest paths: pairPaths of the program, l13Paths of the reference.
-/
import Derived.Test.YtboobimpoddacaaGreatDoorPairS
namespace Go.Proofs.YtboobimpoddacaaGreatDoor
open Go.RowKit
set_option linter.unusedVariables false

theorem cnt_nn {ps : List Pl} (h : ∀ p ∈ ps, 0 ≤ p.2 ∧ p.2 ≤ 99) : ∀ x y, 0 ≤ cnt ps x y := fun x y => (cnt_bound x y ps h).1
/-- A place of a table that is read. -/
theorem IRows.tab_at {w : World} {lo N c k : Nat} {A : Option Addr} {f : Nat → Nat → Int} (h : IRows w lo A N c (tabOf N f)) (hk : k < N) :
    ∃ b off bk ok ck, A = some ⟨b, off, none⟩ ∧ w.cell? ⟨b, off + k, none⟩ = some (.slice (some ⟨bk, ok, none⟩) N ck) ∧ N ≤ ck ∧ ck ≤ 9223372036854775807 ∧ ∀ j, j < N → w.cell? ⟨bk, ok + j, none⟩ = some (.int .i64 (f k j)) := by
  obtain ⟨b, off, ys, A', c', rfl, hys, hI, hc⟩ := h.at_ hk
  obtain rfl : ys = tabRow N (f k) := by
    have := hys.out
    rw [tabOf_at f hk] at this
    injection this with this
    exact this.symm
  rw [tabRow_len] at hI hc
  obtain ⟨bk, ok, z, rfl, _, _⟩ := Ints.at_ hI (show 0 < N by omega)
  refine ⟨b, off, bk, ok, c', rfl, hc, hI.le, hI.max, fun j hj => ?_⟩
  obtain ⟨b2, o2, z2, e, hz, hcell⟩ := Ints.at_ hI hj
  injection e with e
  injection e with e1 e2
  subst e1 e2
  have := hz.out
  rw [tabRow_at _ hj] at this
  injection this with this
  rw [this]
  exact hcell
section
variable {it t : TypeId} {w : World} {lo hi N c k g : Nat} {f : Nat → Nat → Int} {hs : List Hd}
theorem OwnRows.tab_at (h : OwnRows it t w lo hi (some ⟨g, 0, none⟩) N c (tabOf N f) hs) (hk : k < N) :
    ∃ gk ck, hs[k]? = some (some ⟨gk, 0, none⟩, ck) ∧ lo ≤ gk ∧ w.cell? ⟨g, k, none⟩ = some (.slice (some ⟨gk, 0, none⟩) N ck) ∧ N ≤ ck ∧ ck ≤ 9223372036854775807 ∧ (∀ j, j < N → w.cell? ⟨gk, j, none⟩ = some (.int .i64 (f k j))) ∧
      w.ownsRow lo it 1 (.slice (some ⟨gk, 0, none⟩) N ck) N ((tabRow N (f k)).map (Value.int .i64)) := by
  have hx := tabOf_at f hk
  obtain ⟨d, hd⟩ : ∃ d, hs[k]? = some d := ⟨hs[k]'(by rw [h.len, tabOf_len]; exact hk), List.getElem?_eq_getElem _⟩
  have hr := h.rows k _ d hx hd
  rw [tabRow_len] at hr
  obtain ⟨dA, dc⟩ := d
  obtain ⟨gk, rfl, hg1, hg2⟩ := own_adr (A := dA) hr (by omega)
  have hcell : w.cell? ⟨g, k, none⟩ = some (.slice (some ⟨gk, 0, none⟩) N dc) := by
    rw [h.row.cellAt k (by omega)]
    have := tabCells_at hx hd
    rw [tabRow_len] at this
    exact this
  refine ⟨gk, dc, hd, hg1, hcell, (Sl.own hr).le, Sl.max (Sl.own hr), fun j hj => ?_, hr⟩
  have := World.ownsRow.cellAt hr j (by omega)
  rw [List.getElem?_map, tabRow_at _ hj] at this
  exact this
theorem OwnRows.tab_set {x y gx cx : Nat} (h : OwnRows it t w lo hi (some ⟨g, 0, none⟩) N c (tabOf N f) hs) (hx : x < N) (hd : hs[x]? = some (some ⟨gx, 0, none⟩, cx)) (hy : y < N) (v : Int) :
    OwnRows it t (w.setCell ⟨gx, y, none⟩ (.int .i64 v)) lo hi (some ⟨g, 0, none⟩) N c (tabOf N (fun i j => if i = x ∧ j = y then v else f i j)) hs := by
  have hxx := tabOf_at f hx
  have hr := h.rows x _ _ hxx hd
  have hst := World.ownsRow.stored hr y (.int .i64 v)
  have := (h.setRow (w' := w.setCell ⟨gx, y, none⟩ (.int .i64 v)) (ys' := tabRow N (fun j => if j = y then v else f x j)) hxx hd (by rw [tabRow_len, tabRow_len]) hst.2 (by
    have h2 := hst.1
    rw [← List.map_set, tabRow_set] at h2
    exact h2)).1
  rw [tabOf_set] at this
  exact this
end
theorem path0_le {C : Nat → Nat → Int} {x y : Nat} (h : C y x < C x y) : path0 C x y = C x y := if_pos h
theorem path0_no {C : Nat → Nat → Int} {x y : Nat} (h : ¬ C y x < C x y) : path0 C x y = 0 := if_neg h

attribute [local go_sem] flowAct flowOp_def flowUpon
set_option maxHeartbeats 16000000 in
set_option maxRecDepth 100000 in
theorem c_pairPaths (lo : Nat) (A : Option Addr) (np cap N : Nat) (ps : List Pl) (w : World) (h : Piles w lo A np cap ps) (hs : ∀ p ∈ ps, p.1.size ≤ 2000000) (hfit : fitOK ps N = true) :
    Calls Tryz.prog 124 #[.slice A np cap, .int .i64 N] w fun e w' => ∃ D c, e = .returned (.slice D N c) ∧ w.grownBy w' none ∧ IRows w' w.heap.size D N c (tabOf N (paths (cnt ps) N)) := by
  have hN : 1 ≤ N ∧ N ≤ 5 := by have := (fit_many hfit).2.2; omega
  have hcall := c_pairCounts lo A np cap N ps w h hs hfit
  obtain ⟨C, eC⟩ : ∃ C, cnt ps = C := ⟨_, rfl⟩
  have HC : Hid (∀ x y, 0 ≤ C x y) := Lib.hid (by rw [← eC]; exact cnt_nn (fit_many hfit).1)
  rw [eC] at hcall
  rw [eC]
  have Hc := Lib.hid hcall
  obtain ⟨hN1, hN5⟩ := hN
  clear hs hfit eC hcall h
  go_enter Tryz.func124, Tryz.ntmps124
  go_wp2_with fail
  refine Hc.out.mono ?_
  rintro e wc ⟨D, rfl, hgc, hD⟩
  clear Hc
  obtain ⟨w0, hmk, hg0, hT0⟩ := mk_tab N (by omega) wc
  have hG0 := gb_trans hgc hg0
  have hcw := hgc.size
  have hT0 := hT0.wide hcw (Nat.le_refl w0.heap.size)
  have hw0 : wc.heap.size < w0.heap.size := (hT0.row.lt wc.heap.size rfl).2
  have HD : Hid (IRows wc w.heap.size D N N (tabOf N C)) := Lib.hid hD
  obtain ⟨g, hg⟩ : ∃ g, wc.heap.size = g := ⟨_, rfl⟩
  rw [hg] at hT0 hmk hw0
  have hgw : w.heap.size ≤ g := by rw [← hg]; exact hcw
  have hcg : wc.heap.size ≤ g := Nat.le_of_eq hg
  clear hD hgc hcw hg
  go_wp2
  clear hmk
  go_loopw [19] (fun i wr => ∃ (x hi : Nat) (hs : List Hd), x ≤ N ∧ i = .int .i64 x ∧ w.grownBy wr none ∧ wc.grownBy wr none ∧ hi ≤ wr.heap.size ∧ g < hi ∧ OwnRows 3 62 wr w.heap.size hi (some ⟨g, 0, none⟩) N N (upTo N x (path0 C) []) hs) (fun i _ => N - (intOf i).toNat)
  case atStart => exact ⟨0, w0.heap.size, _, Nat.zero_le _, rfl, hG0, hg0, Nat.le_refl _, hw0, by rw [upTo_zero]; exact hT0⟩
  case round =>
    obtain ⟨x, hi, hs, hx, rfl, hG, hg0r, hhi, hgi, hT⟩ := hrel
    rename World => wr
    clear hT0 hG0 hg0
    by_cases hlt : x < N
    · have hx' : (x : Int) < (N : Int) := by omega
      have hx0 : (0 : Int) ≤ (x : Int) := by omega
      obtain ⟨w1, hmk, hg1, hrow1⟩ := mk_ints N (by omega) wr
      have hT1 := hT.keep hg1
      obtain ⟨u1, hc1⟩ := own_cell hT1.row hlt
      have hf1 := hT1.row.frozenAt x
      have hhi1 : hi ≤ w1.heap.size := Nat.le_trans hhi hg1.size
      have hz1 : wr.heap.size < w1.heap.size := (hrow1.lt wr.heap.size rfl).2
      have hsw := hT1.swap (g := g) rfl (ys := rowTo N 0 (path0 C x) 0) (d := (some ⟨wr.heap.size, 0, none⟩, N)) hlt (by
        rw [rowTo_len, rowTo_zero]
        exact own_lo hrow1 hhi) (by omega) hhi1
      rw [rowTo_len, upTo_set] at hsw
      obtain ⟨hT2, hg2⟩ := hsw
      have hd2 : Hid ((hs.set x (some ⟨wr.heap.size, 0, none⟩, N))[x]? = some (some ⟨wr.heap.size, 0, none⟩, N)) := Lib.hid (List.getElem?_set_self (by rw [hT.len, upTo_len]; exact hlt))
      obtain ⟨hs2, ehs2⟩ : ∃ hs2, hs.set x (some ⟨wr.heap.size, 0, none⟩, N) = hs2 := ⟨_, rfl⟩
      rw [ehs2] at hT2 hd2
      have hG1 := gb_trans hG hg1
      have hG2 := gb_setCell (p := ⟨g, x, none⟩) hG1 (.inr hgw) (.slice (some ⟨wr.heap.size, 0, none⟩) N N)
      have hg02 := gb_setCell (p := ⟨g, x, none⟩) (gb_trans hg0r hg1) (.inr hcg) (.slice (some ⟨wr.heap.size, 0, none⟩) N N)
      have hz2 : w1.heap.size ≤ (w1.setCell ⟨g, x, none⟩ (.slice (some ⟨wr.heap.size, 0, none⟩) N N)).heap.size := hg2.size
      have h0r := hg0r.size
      obtain ⟨gd, hgd⟩ : ∃ gd, wr.heap.size = gd := ⟨_, rfl⟩
      rw [hgd] at hT2 hd2 hz2 hG2 hg02
      obtain ⟨H2, hH2⟩ : ∃ H2, w1.heap.size = H2 := ⟨_, rfl⟩
      rw [hH2] at hT2 hz2
      have HW := Lib.hid (And.intro hgd hH2)
      have hgw2 : w.heap.size ≤ gd := by rw [← hgd]; exact hG.size
      have hgd0 : wc.heap.size ≤ gd := by rw [← hgd]; exact h0r
      have hgdH : gd < H2 := by rw [← hgd, ← hH2]; exact hz1
      have hwH : g < H2 := by omega
      clear hT hT1 ehs2 hG1 hg2 hrow1 hhi hhi1 hG hg1 hz1 hg0r
      go_wp2
      clear hmk hc1 hf1
      try rw [hgd]
      go_loopw [28] (fun i wq => ∃ y : Nat, y ≤ N ∧ i = .int .i64 y ∧ w.grownBy wq none ∧ wc.grownBy wq none ∧ H2 ≤ wq.heap.size ∧ OwnRows 3 62 wq w.heap.size H2 (some ⟨g, 0, none⟩) N N (upTo N x (path0 C) (rowTo N y (path0 C x) 0)) hs2) (fun i _ => N - (intOf i).toNat)
      case atStart => exact ⟨0, Nat.zero_le _, rfl, hG2, hg02, hz2, hT2⟩
      case round =>
        obtain ⟨y, hy, rfl, hGq, hg0q, hzq, hTq⟩ := hrel
        rename World => wq
        clear hT2 hG2 hz2 hg02
        by_cases hylt : y < N
        · have hy' : (y : Int) < (N : Int) := by omega
          have hy0 : (0 : Int) ≤ (y : Int) := by omega
          have hDq : IRows wq w.heap.size D N N (tabOf N C) := HD.out.keep0 hg0q
          obtain ⟨b, off, bx, ox, cx, rfl, mx, hcx1, hcx2, cellx⟩ := hDq.tab_at hlt
          obtain ⟨b2, off2, by_, oy, cy, he, my, hcy1, hcy2, celly⟩ := hDq.tab_at hylt
          injection he with he
          injection he with he1 he2
          subst he1 he2
          have kxy := cellx y hylt
          have kyx := celly x hlt
          obtain ⟨vxy, evxy⟩ : ∃ v, C x y = v := ⟨_, rfl⟩
          obtain ⟨vyx, evyx⟩ : ∃ v, C y x = v := ⟨_, rfl⟩
          have hTx := upTo_at (path0 C) (rowTo N y (path0 C x) 0) hlt
          have hrx := hTq.rows x _ _ hTx hd2.out
          rw [rowTo_len] at hrx
          have m0 : wq.cell? ⟨g, x, none⟩ = some (.slice (some ⟨gd, 0, none⟩) N N) := by
            rw [hTq.row.cellAt x (by omega)]
            have := tabCells_at hTx hd2.out
            rw [rowTo_len] at this
            exact this
          obtain ⟨u5, m1⟩ := own_cell hrx hylt
          have Hend := Lib.hid (fun (z : World) (hz : wq.grownBy z none) (v : Int) =>
            (hTq.keep hz).setRow (w' := z.setCell ⟨gd, y, none⟩ (.int .i64 v)) (ys' := rowTo N y (path0 C x) v) hTx hd2.out (by rw [rowTo_len, rowTo_len]) (by rw [rowTo_len]; exact ((own_below hrx hz).stored y (.int .i64 v)).2) (by
              rw [rowTo_len]
              have := ((own_below hrx hz).stored y (.int .i64 v)).1
              rw [← List.map_set, rowTo_set] at this
              exact this))
          have HfK := Lib.hid (fun (z : World) (hz : wq.grownBy z none) => (own_below hrx hz).frozenAt y)
          rw [evxy] at kxy
          rw [evyx] at kyx
          have Hxy := Lib.hid (And.intro evxy evyx)
          have hst : Hid ((vyx < vxy → path0 C x y = vxy) ∧ (¬ vyx < vxy → path0 C x y = 0)) := Lib.hid (by rw [← evxy, ← evyx]; exact ⟨path0_le, path0_no⟩)
          have HT := Lib.hid hTq
          clear cellx celly evxy evyx hTx hrx hDq hTq
          by_cases hv : vyx < vxy
          · have hd : decide (vyx < vxy) = true := by simpa using hv
            go_wp2
            go_quiet (fail)
            go_wp2_with fail
            refine wp_known_tail wq [_, _, _, _, _, _, _, _, _, _, _, _, _] _ [.slice (some ⟨g, 0, none⟩) N N, .int .i64 x, .pointer (some ⟨g, x, none⟩), .slice (some ⟨gd, 0, none⟩) N N, .int .i64 y, .slice (some ⟨b, off, none⟩) N N, .int .i64 x, .pointer (some ⟨b, off + x, none⟩), .slice (some ⟨bx, ox, none⟩) N cx, .int .i64 y, .pointer (some ⟨bx, ox + y, none⟩), .int .i64 vxy, .pointer (some ⟨gd, y, none⟩)] rfl (gb_drewN (gb_refl _ _) _) (by kernel_rfl) (by kernel_rfl) (by kernel_rfl) ?_ ?_
            · refine ⟨?_, ?_, ?_, ?_, ?_, ?_, ?_, ?_, ?_, ?_, ?_, ?_, ?_, trivial⟩
              all_goals
                intro nn u z hn hC hp
                simp [flowPreds, Region.binds, fKnown] at hp
                have n0 := gb_cell hC m0 (by simp)
                have n1 := gb_cell hC m1 (by simp)
                have n2 := gb_cell hC mx (by simp)
                have n3 := gb_cell hC kxy (by simp)
                go_simp
              all_goals try exact ⟨gb_refl _ _, rfl⟩
            · intro u z hC hp'
              have e9 : u 11 = .int .i64 vxy := hp' 11 (by decide)
              have e10 : u 12 = .pointer (some ⟨gd, y, none⟩) := hp' 12 (by decide)
              have hfz := HfK.out z hC
              have hTz := (Hend.out z hC vxy).1
              have n1 := gb_cell hC m1 (by simp)
              rw [upTo_set] at hTz
              have hTn : OwnRows 3 62 (z.setCell ⟨gd, y, none⟩ (.int .i64 vxy)) w.heap.size H2 (some ⟨g, 0, none⟩) N N (upTo N x (path0 C) (rowTo N (y + 1) (path0 C x) 0)) hs2 := by
                rw [← rowTo_next, hst.out.1 hv]
                exact hTz
              have hGz := gb_setCell (p := ⟨gd, y, none⟩) (gb_trans hGq hC) (.inr hgw2) (.int .i64 vxy)
              have hg0z := gb_setCell (p := ⟨gd, y, none⟩) (gb_trans hg0q hC) (.inr hgd0) (.int .i64 vxy)
              have hzz : H2 ≤ (z.setCell ⟨gd, y, none⟩ (.int .i64 vxy)).heap.size := by
                have := (gb_setCell (p := ⟨gd, y, none⟩) (gb_refl z (some gd)) (.inl rfl) (.int .i64 vxy)).size
                have := hC.size
                omega
              clear Hend HfK hTz
              go_simp
              go_wp2
              go_roundw
              case rel => exact ⟨y + 1, by omega, by go_num, hGz, hg0z, hzz, hTn⟩
              case measure => simp [intOf]; omega
          · have hd : decide (vyx < vxy) = false := by simpa using hv
            have hTn : OwnRows 3 62 wq w.heap.size H2 (some ⟨g, 0, none⟩) N N (upTo N x (path0 C) (rowTo N (y + 1) (path0 C x) 0)) hs2 := by
              have := rowTo_next N y (path0 C x)
              rw [hst.out.2 hv] at this
              rw [← this]
              exact HT.out
            clear Hend HfK m0 m1
            go_wp2
            go_quiet (fail)
            go_wp2
            go_roundw
            case rel => exact ⟨y + 1, by omega, by go_num, gb_drewN hGq _, gb_drewN hg0q _, hzq, hTn.keep (gb_drewN (gb_refl _ _) _)⟩
            case measure => simp [intOf]; omega
        · obtain rfl : N = y := by omega
          have hTn : OwnRows 3 62 wq w.heap.size H2 (some ⟨g, 0, none⟩) N N (upTo N (x + 1) (path0 C) []) hs2 := by
            rw [rowTo_all, upTo_next] at hTq
            exact hTq
          clear hTq
          go_wp2
          go_roundw
          case rel => exact ⟨x + 1, H2, hs2, by omega, by go_num, hGq, hg0q, hzq, hwH, hTn⟩
          case measure => simp [intOf]; omega
    · obtain rfl : N = x := by omega
      rw [upTo_all] at hT
      have hTt : OwnRows 3 62 wr w.heap.size hi (some ⟨g, 0, none⟩) N N (tabOf N (paths C 0)) hs := hT
      have hGt := hG
      obtain ⟨H, eH⟩ : ∃ H, H = hi := ⟨_, rfl⟩
      have hHt : H ≤ wr.heap.size := by rw [eH]; exact hhi
      rw [← eH] at hTt
      clear hT hG hhi hgi eH hlt hg0r HD hx
      go_wp2
      go_loopw [62] (fun i wo => ∃ o : Nat, o ≤ N ∧ i = .int .i64 o ∧ w.grownBy wo none ∧ H ≤ wo.heap.size ∧ OwnRows 3 62 wo w.heap.size H (some ⟨g, 0, none⟩) N N (tabOf N (paths C o)) hs) (fun i _ => N - (intOf i).toNat)
      case atStart => exact ⟨0, Nat.zero_le _, rfl, hGt, hHt, hTt⟩
      case round =>
        obtain ⟨o, ho, rfl, hGo, hHo, hTo⟩ := hrel
        rename World => wo
        clear hGt hHt hTt
        have hPok := Lib.hid (paths_ok C HC.out o)
        by_cases holt : o < N
        · have ho' : (o : Int) < (N : Int) := by omega
          have ho0 : (0 : Int) ≤ (o : Int) := by omega
          obtain ⟨P, hP⟩ : ∃ P, paths C o = P := ⟨_, rfl⟩
          have hPn : Hid (over o P = paths C (o + 1)) := Lib.hid (by rw [← hP]; rfl)
          rw [hP] at hTo hPok
          clear hP
          go_wp2
          go_loopw [66] (fun i wx => ∃ x : Nat, x ≤ N ∧ i = .int .i64 x ∧ w.grownBy wx none ∧ H ≤ wx.heap.size ∧ OwnRows 3 62 wx w.heap.size H (some ⟨g, 0, none⟩) N N (tabOf N (mid o P x 0)) hs) (fun i _ => N - (intOf i).toNat)
          case atStart => exact ⟨0, Nat.zero_le _, rfl, hGo, hHo, by rw [mid_start]; exact hTo⟩
          case round =>
            obtain ⟨x, hx, rfl, hGx, hHx, hTx⟩ := hrel
            rename World => wx
            clear hGo hHo hTo
            by_cases hxlt : x < N
            · have hx' : (x : Int) < (N : Int) := by omega
              have hx0 : (0 : Int) ≤ (x : Int) := by omega
              go_wp2
              go_loopw [70] (fun i wy => ∃ y : Nat, y ≤ N ∧ i = .int .i64 y ∧ w.grownBy wy none ∧ H ≤ wy.heap.size ∧ OwnRows 3 62 wy w.heap.size H (some ⟨g, 0, none⟩) N N (tabOf N (mid o P x y)) hs) (fun i _ => N - (intOf i).toNat)
              case atStart => exact ⟨0, Nat.zero_le _, rfl, hGx, hHx, hTx⟩
              case round =>
                obtain ⟨y, hy, rfl, hGy, hHy, hTy⟩ := hrel
                rename World => wy
                clear hGx hHx hTx
                by_cases hylt : y < N
                · have hy' : (y : Int) < (N : Int) := by omega
                  have hy0 : (0 : Int) ≤ (y : Int) := by omega
                  by_cases hxy : x = y
                  · have hne : ((x : Int) != (y : Int)) = false := by rw [bne_eq_false_iff_eq]; omega
                    have hTn : OwnRows 3 62 wy w.heap.size H (some ⟨g, 0, none⟩) N N (tabOf N (mid o P x (y + 1))) hs := by
                      rw [← hxy, ← mid_skip, hxy]
                      rw [hxy] at hTy
                      exact hTy
                    clear hxy hTy
                    go_wp2
                    go_roundw
                    case rel => exact ⟨y + 1, by omega, by go_num, hGy, hHy, hTn⟩
                    case measure => simp [intOf]; omega
                  · have hne : ((x : Int) != (y : Int)) = true := by rw [bne_iff_ne]; omega
                    obtain ⟨gx, cx, hdx, hgx, mx, hcx1, hcx2, cellx, rowx⟩ := hTy.tab_at hxlt
                    obtain ⟨go, co, hdo, hgo, mo, hco1, hco2, cello, rowo⟩ := hTy.tab_at holt
                    have cxy := cellx y hylt
                    have cxo := cellx o holt
                    have coy := cello y hylt
                    have hstep := Lib.hid (mid_step hPok.out o x y hxy)
                    have Hend := Lib.hid (fun (z : World) (hz : wy.grownBy z none) (v : Int) => (hTy.keep hz).tab_set hxlt hdx hylt v)
                    have HfK := Lib.hid (fun (z : World) (hz : wy.grownBy z none) => (own_below rowx hz).frozenAt y)
                    obtain ⟨pxy, epxy⟩ : ∃ p, mid o P x y x y = p := ⟨_, rfl⟩
                    obtain ⟨pxo, epxo⟩ : ∃ p, mid o P x y x o = p := ⟨_, rfl⟩
                    obtain ⟨poy, epoy⟩ : ∃ p, mid o P x y o y = p := ⟨_, rfl⟩
                    rw [epxy] at cxy hstep
                    rw [epxo] at cxo hstep
                    rw [epoy] at coy hstep
                    clear cellx cello rowx rowo epxy epxo epoy hTy hxy hdx hdo
                    go_wp2_with fail
                    refine wp_known_tail wy [_, _, _, _, _, _, _, _, _, _, _, _, _, _, _, _, _, _, _, _, _, _, _, _, _, _, _, _, _] _ [.slice (some ⟨g, 0, none⟩) N N, .int .i64 x, .pointer (some ⟨g, x, none⟩), .slice (some ⟨gx, 0, none⟩) N cx, .int .i64 y, .slice (some ⟨g, 0, none⟩) N N, .int .i64 x, .pointer (some ⟨g, x, none⟩), .slice (some ⟨gx, 0, none⟩) N cx, .int .i64 y, .pointer (some ⟨gx, y, none⟩), .int .i64 pxy, .slice (some ⟨g, 0, none⟩) N N, .int .i64 x, .pointer (some ⟨g, x, none⟩), .slice (some ⟨gx, 0, none⟩) N cx, .int .i64 o, .pointer (some ⟨gx, o, none⟩), .int .i64 pxo, .slice (some ⟨g, 0, none⟩) N N, .int .i64 o, .pointer (some ⟨g, o, none⟩), .slice (some ⟨go, 0, none⟩) N co, .int .i64 y, .pointer (some ⟨go, y, none⟩), .int .i64 poy, .int .i64 (min pxo poy), .int .i64 (max pxy (min pxo poy)), .pointer (some ⟨gx, y, none⟩)] rfl (gb_refl _ _) (by kernel_rfl) (by kernel_rfl) (by kernel_rfl) ?_ ?_
                    · refine ⟨?_, ?_, ?_, ?_, ?_, ?_, ?_, ?_, ?_, ?_, ?_, ?_, ?_, ?_, ?_, ?_, ?_, ?_, ?_, ?_, ?_, ?_, ?_, ?_, ?_, ?_, ?_, ?_, ?_, trivial⟩
                      all_goals
                        intro nn u z hn hC hp
                        simp [flowPreds, Region.binds, fKnown] at hp
                        have n0 := gb_cell hC mx (by simp)
                        have n1 := gb_cell hC mo (by simp)
                        have n2 := gb_cell hC cxy (by simp)
                        have n3 := gb_cell hC cxo (by simp)
                        have n4 := gb_cell hC coy (by simp)
                        go_simp
                      all_goals try exact ⟨gb_refl _ _, rfl⟩
                      all_goals first | exact ⟨gb_refl _ _, show Value.int .i64 (if poy < pxo then poy else pxo) = Value.int .i64 (min pxo poy) from congrArg _ (by split <;> omega)⟩ | exact ⟨gb_refl _ _, show Value.int .i64 (if pxy < min pxo poy then min pxo poy else pxy) = Value.int .i64 (max pxy (min pxo poy)) from congrArg _ (by split <;> omega)⟩
                    · intro u z hC hp'
                      have e27 : u 27 = .int .i64 (max pxy (min pxo poy)) := hp' 27 (by decide)
                      have e28 : u 28 = .pointer (some ⟨gx, y, none⟩) := hp' 28 (by decide)
                      have hfz := HfK.out z hC
                      have hTz := Hend.out z hC (max pxy (min pxo poy))
                      rw [hstep.out] at hTz
                      have n2 := gb_cell hC cxy (by simp)
                      have hGz := gb_setCell (p := ⟨gx, y, none⟩) (gb_trans hGy hC) (.inr hgx) (.int .i64 (max pxy (min pxo poy)))
                      have hHz : H ≤ (z.setCell ⟨gx, y, none⟩ (.int .i64 (max pxy (min pxo poy)))).heap.size := by
                        have := (gb_setCell (p := ⟨gx, y, none⟩) (gb_refl z (some gx)) (.inl rfl) (.int .i64 (max pxy (min pxo poy)))).size
                        have := hC.size
                        omega
                      clear Hend HfK
                      go_simp
                      go_wp2
                      go_roundw
                      case rel => exact ⟨y + 1, by omega, by go_num, hGz, hHz, hTz⟩
                      case measure => simp [intOf]; omega
                · obtain rfl : N = y := by omega
                  have hTn : OwnRows 3 62 wy w.heap.size H (some ⟨g, 0, none⟩) N N (tabOf N (mid o P (x + 1) 0)) hs := by rw [← mid_next]; exact hTy
                  clear hTy
                  go_wp2
                  go_roundw
                  case rel => exact ⟨x + 1, by omega, by go_num, hGy, hHy, hTn⟩
                  case measure => simp [intOf]; omega
            · obtain rfl : N = x := by omega
              have hTn : OwnRows 3 62 wx w.heap.size H (some ⟨g, 0, none⟩) N N (tabOf N (paths C (o + 1))) hs := by rw [← hPn.out, ← mid_end]; exact hTx
              clear hTx
              go_wp2
              go_roundw
              case rel => exact ⟨o + 1, by omega, by go_num, hGx, hHx, hTn⟩
              case measure => simp [intOf]; omega
        · obtain rfl : N = o := by omega
          have hI := hTo.irows
          clear hTo
          go_wp2
          go_ret
          exact ⟨_, _, rfl, hGo, hI⟩
set_option maxHeartbeats 16000000 in
set_option maxRecDepth 100000 in
theorem c_l13Paths (lo : Nat) (D : Option Addr) (N cD : Nat) (C : Nat → Nat → Int) (w : World) (h : IRows w lo D N cD (tabOf N C)) (hC : ∀ x y, 0 ≤ C x y) (hN1 : 1 ≤ N) (hN5 : N ≤ 5) :
    Calls Tryz.prog 142 #[.slice D N cD] w fun e w' => ∃ E c, e = .returned (.slice E N c) ∧ w.grownBy w' none ∧ IRows w' w.heap.size E N c (tabOf N (paths C N)) := by
  have HC := Lib.hid hC
  have hlc := h.le
  have hcm := h.max
  have HD := Lib.hid h
  clear hC h
  have hT0 := OwnRows.empty 3 62 w w.heap.size (Nat.le_refl _)
  go_enter Tryz.func142, Tryz.ntmps142
  go_wp2
  go_loopw [3, 4] (fun v i wr => ∃ (x hi : Nat) (A : Option Addr) (cA : Nat) (hs : List Hd), x ≤ N ∧ i = .int .i64 x ∧ v = .slice A x cA ∧ w.grownBy wr none ∧ hi ≤ wr.heap.size ∧ w.heap.size ≤ hi ∧ OwnRows 3 62 wr w.heap.size hi A x cA ((tabOf N (path0 C)).take x) hs) (fun _ i _ => N - (intOf i).toNat)
  case atStart => exact ⟨0, w.heap.size + 1, _, _, _, Nat.zero_le _, rfl, rfl, gb_alloc (gb_refl _ _) _, by simp, by omega, hT0⟩
  case round =>
    obtain ⟨x, hi, A, cA, hs, hx, rfl, rfl, hG, hhi, hwi, hT⟩ := hrel
    rename World => wr
    clear hT0
    by_cases hlt : x < N
    · have hx' : (x : Int) < (N : Int) := by omega
      have hx0 : (0 : Int) ≤ (x : Int) := by omega
      obtain ⟨w1, hmk, hg1, hrow1⟩ := mk_ints N (by omega) wr
      rw [← rowTo_zero N (path0 C x)] at hrow1
      obtain ⟨gd, hgd⟩ : ∃ gd, wr.heap.size = gd := ⟨_, rfl⟩
      have hwg : w.heap.size ≤ gd := by rw [← hgd]; exact hG.size
      have hbase : wr.heap.size ≤ gd := Nat.le_of_eq hgd
      rw [hgd] at hrow1 hmk hhi
      clear hgd
      go_wp2
      clear hmk
      go_loopw [6] (fun i wq => ∃ y : Nat, y ≤ N ∧ i = .int .i64 y ∧ wr.grownBy wq none ∧ wq.ownsRow gd 3 1 (.slice (some ⟨gd, 0, none⟩) N N) N ((rowTo N y (path0 C x) 0).map (Value.int .i64))) (fun i _ => N - (intOf i).toNat)
      case atStart => exact ⟨0, Nat.zero_le _, rfl, hg1, hrow1⟩
      case round =>
        obtain ⟨y, hy, rfl, hGq, hrq⟩ := hrel
        rename World => wq
        clear hrow1 hg1
        by_cases hylt : y < N
        · have hy' : (y : Int) < (N : Int) := by omega
          have hy0 : (0 : Int) ≤ (y : Int) := by omega
          have hDq : IRows wq lo D N cD (tabOf N C) := HD.out.keep0 (gb_trans hG hGq)
          obtain ⟨b, off, bx, ox, cx, rfl, mx, hcx1, hcx2, cellx⟩ := hDq.tab_at hlt
          obtain ⟨b2, off2, by_, oy, cy, he, my, hcy1, hcy2, celly⟩ := hDq.tab_at hylt
          injection he with he
          injection he with he1 he2
          subst he1 he2
          have kxy := cellx y hylt
          have kyx := celly x hlt
          obtain ⟨vxy, evxy⟩ : ∃ v, C x y = v := ⟨_, rfl⟩
          obtain ⟨vyx, evyx⟩ : ∃ v, C y x = v := ⟨_, rfl⟩
          rw [evxy] at kxy
          rw [evyx] at kyx
          have hst : Hid ((vyx < vxy → path0 C x y = vxy) ∧ (¬ vyx < vxy → path0 C x y = 0)) := Lib.hid (by rw [← evxy, ← evyx]; exact ⟨path0_le, path0_no⟩)
          clear cellx celly evxy evyx hDq
          by_cases hv : vyx < vxy
          · have hd : decide (vyx < vxy) = true := by simpa using hv
            obtain ⟨u5, m1⟩ := own_cell hrq hylt
            have hf1 := hrq.frozenAt y
            have hrn : (wq.setCell ⟨gd, y, none⟩ (.int .i64 vxy)).ownsRow gd 3 1 (.slice (some ⟨gd, 0, none⟩) N N) N ((rowTo N (y + 1) (path0 C x) 0).map (Value.int .i64)) := by
              have := (hrq.stored y (.int .i64 vxy)).1
              rw [← List.map_set, rowTo_set] at this
              rw [← rowTo_next, hst.out.1 hv]
              exact this
            have hGz := gb_setCell (p := ⟨gd, y, none⟩) hGq (.inr hbase) (.int .i64 vxy)
            clear hrq
            go_wp2
            go_quiet (fail)
            go_wp2
            go_roundw
            case rel => exact ⟨y + 1, by omega, by go_num, gb_setCell (p := ⟨gd, y, none⟩) (gb_drewN hGq _) (.inr hbase) (.int .i64 vxy), hrn⟩
            case measure => simp [intOf]; omega
          · have hd : decide (vyx < vxy) = false := by simpa using hv
            have hrn : wq.ownsRow gd 3 1 (.slice (some ⟨gd, 0, none⟩) N N) N ((rowTo N (y + 1) (path0 C x) 0).map (Value.int .i64)) := by
              have := rowTo_next N y (path0 C x)
              rw [hst.out.2 hv] at this
              rw [← this]
              exact hrq
            clear hrq
            go_wp2
            go_quiet (fail)
            go_wp2
            go_roundw
            case rel => exact ⟨y + 1, by omega, by go_num, gb_drewN hGq _, own_drewN hrn _⟩
            case measure => simp [intOf]; omega
        · obtain rfl : N = y := by omega
          rw [rowTo_all] at hrq
          have hTk := hT.keep hGq
          have hGw := gb_trans hG hGq
          have hhk : hi ≤ wq.heap.size := Nat.le_trans hhi (Nat.le_of_lt (hrq.lt gd rfl).2)
          have hrowT := hTk.row
          have HT := Lib.hid hTk
          have Hr := Lib.hid hrq
          have hszk := hGw.size
          clear hT hTk hrq
          go_wp2_with (at_builtin; refine wpList_app intsE rfl _ _ rfl w.heap.size x _ _ rfl hrowT [_] rfl rfl (by simp [Value.oneCell']) (by omega) (by omega) hszk ?_; intro A' c' w5 hown5 hb5 hg5 hat5)
          have hpu := HT.out.push (ys := tabRow N (path0 C x)) (d := (some ⟨gd, 0, none⟩, N)) (by rw [tabRow_len]; exact own_lo Hr.out hhi) hwi (by rw [tabRow_len]; exact hown5) hg5 hat5 hhk
          rw [← tabOf_take N x _ hlt] at hpu
          have hG5 := gb_of_below ((gb_below hGw).trans hb5) none
          have hwi5 := hG5.size
          go_roundw
          case rel => exact ⟨x + 1, w5.heap.size, A', c', _, by omega, by go_num, rfl, hG5, Nat.le_refl _, hwi5, hpu⟩
          case measure => simp [intOf]; omega
    · obtain rfl : N = x := by omega
      rw [List.take_of_length_le (by rw [tabOf_len]; exact Nat.le_refl _)] at hT
      obtain ⟨g, rfl, hg0, hg1⟩ := own_adr hT.row (by omega)
      have hTt : OwnRows 3 62 wr w.heap.size hi (some ⟨g, 0, none⟩) N cA (tabOf N (paths C 0)) hs := hT
      have hcA1 := hT.irows.le
      have hcA2 := hT.irows.max
      have hGt := hG
      obtain ⟨H, eH⟩ : ∃ H, H = hi := ⟨_, rfl⟩
      have hHt : H ≤ wr.heap.size := by rw [eH]; exact hhi
      rw [← eH] at hTt
      clear hT hG hhi eH hlt hwi HD hx hg0 hg1
      go_wp2
      go_loopw [7] (fun i wo => ∃ o : Nat, o ≤ N ∧ i = .int .i64 o ∧ w.grownBy wo none ∧ H ≤ wo.heap.size ∧ OwnRows 3 62 wo w.heap.size H (some ⟨g, 0, none⟩) N cA (tabOf N (paths C o)) hs) (fun i _ => N - (intOf i).toNat)
      case atStart => exact ⟨0, Nat.zero_le _, rfl, hGt, hHt, hTt⟩
      case round =>
        obtain ⟨o, ho, rfl, hGo, hHo, hTo⟩ := hrel
        rename World => wo
        clear hGt hHt hTt
        have hPok := Lib.hid (paths_ok C HC.out o)
        by_cases holt : o < N
        · have ho' : (o : Int) < (N : Int) := by omega
          have ho0 : (0 : Int) ≤ (o : Int) := by omega
          obtain ⟨P, hP⟩ : ∃ P, paths C o = P := ⟨_, rfl⟩
          have hPn : Hid (over o P = paths C (o + 1)) := Lib.hid (by rw [← hP]; rfl)
          rw [hP] at hTo hPok
          clear hP
          go_wp2
          go_loopw [8] (fun i wx => ∃ x : Nat, x ≤ N ∧ i = .int .i64 x ∧ w.grownBy wx none ∧ H ≤ wx.heap.size ∧ OwnRows 3 62 wx w.heap.size H (some ⟨g, 0, none⟩) N cA (tabOf N (mid o P x 0)) hs) (fun i _ => N - (intOf i).toNat)
          case atStart => exact ⟨0, Nat.zero_le _, rfl, hGo, hHo, by rw [mid_start]; exact hTo⟩
          case round =>
            obtain ⟨x, hx, rfl, hGx, hHx, hTx⟩ := hrel
            rename World => wx
            clear hGo hHo hTo
            by_cases hxlt : x < N
            · have hx' : (x : Int) < (N : Int) := by omega
              have hx0 : (0 : Int) ≤ (x : Int) := by omega
              go_wp2
              go_loopw [9] (fun i wy => ∃ y : Nat, y ≤ N ∧ i = .int .i64 y ∧ w.grownBy wy none ∧ H ≤ wy.heap.size ∧ OwnRows 3 62 wy w.heap.size H (some ⟨g, 0, none⟩) N cA (tabOf N (mid o P x y)) hs) (fun i _ => N - (intOf i).toNat)
              case atStart => exact ⟨0, Nat.zero_le _, rfl, hGx, hHx, hTx⟩
              case round =>
                obtain ⟨y, hy, rfl, hGy, hHy, hTy⟩ := hrel
                rename World => wy
                clear hGx hHx hTx
                by_cases hylt : y < N
                · have hy' : (y : Int) < (N : Int) := by omega
                  have hy0 : (0 : Int) ≤ (y : Int) := by omega
                  by_cases hxy : x = y
                  · have hne : ((x : Int) != (y : Int)) = false := by rw [bne_eq_false_iff_eq]; omega
                    have hTn : OwnRows 3 62 wy w.heap.size H (some ⟨g, 0, none⟩) N cA (tabOf N (mid o P x (y + 1))) hs := by
                      rw [← hxy, ← mid_skip, hxy]
                      rw [hxy] at hTy
                      exact hTy
                    clear hxy hTy
                    go_wp2
                    go_roundw
                    case rel => exact ⟨y + 1, by omega, by go_num, hGy, hHy, hTn⟩
                    case measure => simp [intOf]; omega
                  · have hne : ((x : Int) != (y : Int)) = true := by rw [bne_iff_ne]; omega
                    obtain ⟨gx, cx, hdx, hgx, mx, hcx1, hcx2, cellx, rowx⟩ := hTy.tab_at hxlt
                    obtain ⟨go, co, hdo, hgo, mo, hco1, hco2, cello, rowo⟩ := hTy.tab_at holt
                    have cxy := cellx y hylt
                    have cxo := cellx o holt
                    have coy := cello y hylt
                    have hstep := Lib.hid (mid_step hPok.out o x y hxy)
                    have Hend := Lib.hid (fun (z : World) (hz : wy.grownBy z none) (v : Int) => (hTy.keep hz).tab_set hxlt hdx hylt v)
                    have HfK := Lib.hid (fun (z : World) (hz : wy.grownBy z none) => (own_below rowx hz).frozenAt y)
                    obtain ⟨pxy, epxy⟩ : ∃ p, mid o P x y x y = p := ⟨_, rfl⟩
                    obtain ⟨pxo, epxo⟩ : ∃ p, mid o P x y x o = p := ⟨_, rfl⟩
                    obtain ⟨poy, epoy⟩ : ∃ p, mid o P x y o y = p := ⟨_, rfl⟩
                    rw [epxy] at cxy hstep
                    rw [epxo] at cxo hstep
                    rw [epoy] at coy hstep
                    clear cellx cello rowx rowo epxy epxo epoy hTy hxy hdx hdo
                    go_wp2_with fail
                    refine wp_known_tail wy [_, _, _, _, _, _, _, _, _, _, _, _, _, _, _, _, _, _, _, _, _, _, _, _, _, _, _, _, _] _ [.slice (some ⟨g, 0, none⟩) N cA, .int .i64 x, .pointer (some ⟨g, x, none⟩), .slice (some ⟨gx, 0, none⟩) N cx, .int .i64 y, .slice (some ⟨g, 0, none⟩) N cA, .int .i64 x, .pointer (some ⟨g, x, none⟩), .slice (some ⟨gx, 0, none⟩) N cx, .int .i64 y, .pointer (some ⟨gx, y, none⟩), .int .i64 pxy, .slice (some ⟨g, 0, none⟩) N cA, .int .i64 x, .pointer (some ⟨g, x, none⟩), .slice (some ⟨gx, 0, none⟩) N cx, .int .i64 o, .pointer (some ⟨gx, o, none⟩), .int .i64 pxo, .slice (some ⟨g, 0, none⟩) N cA, .int .i64 o, .pointer (some ⟨g, o, none⟩), .slice (some ⟨go, 0, none⟩) N co, .int .i64 y, .pointer (some ⟨go, y, none⟩), .int .i64 poy, .int .i64 (min pxo poy), .int .i64 (max pxy (min pxo poy)), .pointer (some ⟨gx, y, none⟩)] rfl (gb_refl _ _) (by kernel_rfl) (by kernel_rfl) (by kernel_rfl) ?_ ?_
                    · refine ⟨?_, ?_, ?_, ?_, ?_, ?_, ?_, ?_, ?_, ?_, ?_, ?_, ?_, ?_, ?_, ?_, ?_, ?_, ?_, ?_, ?_, ?_, ?_, ?_, ?_, ?_, ?_, ?_, ?_, trivial⟩
                      all_goals
                        intro nn u z hn hC hp
                        simp [flowPreds, Region.binds, fKnown] at hp
                        have n0 := gb_cell hC mx (by simp)
                        have n1 := gb_cell hC mo (by simp)
                        have n2 := gb_cell hC cxy (by simp)
                        have n3 := gb_cell hC cxo (by simp)
                        have n4 := gb_cell hC coy (by simp)
                        go_simp
                      all_goals try exact ⟨gb_refl _ _, rfl⟩
                      all_goals first | exact ⟨gb_refl _ _, show Value.int .i64 (if poy < pxo then poy else pxo) = Value.int .i64 (min pxo poy) from congrArg _ (by split <;> omega)⟩ | exact ⟨gb_refl _ _, show Value.int .i64 (if pxy < min pxo poy then min pxo poy else pxy) = Value.int .i64 (max pxy (min pxo poy)) from congrArg _ (by split <;> omega)⟩
                    · intro u z hC hp'
                      have e27 : u 27 = .int .i64 (max pxy (min pxo poy)) := hp' 27 (by decide)
                      have e28 : u 28 = .pointer (some ⟨gx, y, none⟩) := hp' 28 (by decide)
                      have hfz := HfK.out z hC
                      have hTz := Hend.out z hC (max pxy (min pxo poy))
                      rw [hstep.out] at hTz
                      have n2 := gb_cell hC cxy (by simp)
                      have hGz := gb_setCell (p := ⟨gx, y, none⟩) (gb_trans hGy hC) (.inr hgx) (.int .i64 (max pxy (min pxo poy)))
                      have hHz : H ≤ (z.setCell ⟨gx, y, none⟩ (.int .i64 (max pxy (min pxo poy)))).heap.size := by
                        have := (gb_setCell (p := ⟨gx, y, none⟩) (gb_refl z (some gx)) (.inl rfl) (.int .i64 (max pxy (min pxo poy)))).size
                        have := hC.size
                        omega
                      clear Hend HfK
                      go_simp
                      go_wp2
                      go_roundw
                      case rel => exact ⟨y + 1, by omega, by go_num, hGz, hHz, hTz⟩
                      case measure => simp [intOf]; omega
                · obtain rfl : N = y := by omega
                  have hTn : OwnRows 3 62 wy w.heap.size H (some ⟨g, 0, none⟩) N cA (tabOf N (mid o P (x + 1) 0)) hs := by rw [← mid_next]; exact hTy
                  clear hTy
                  go_wp2
                  go_roundw
                  case rel => exact ⟨x + 1, by omega, by go_num, hGy, hHy, hTn⟩
                  case measure => simp [intOf]; omega
            · obtain rfl : N = x := by omega
              have hTn : OwnRows 3 62 wx w.heap.size H (some ⟨g, 0, none⟩) N cA (tabOf N (paths C (o + 1))) hs := by rw [← hPn.out, ← mid_end]; exact hTx
              clear hTx
              go_wp2
              go_roundw
              case rel => exact ⟨o + 1, by omega, by go_num, hGx, hHx, hTn⟩
              case measure => simp [intOf]; omega
        · obtain rfl : N = o := by omega
          have hI := hTo.irows
          clear hTo
          go_wp2
          go_ret
          exact ⟨_, _, rfl, hGo, hI⟩
end Go.Proofs.YtboobimpoddacaaGreatDoor
