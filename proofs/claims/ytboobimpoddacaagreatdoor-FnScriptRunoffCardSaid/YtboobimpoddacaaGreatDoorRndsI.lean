/-
  The rounds of a runoff by the program.
-/
import Derived.Test.YtboobimpoddacaaGreatDoorRnds
import Derived.Test.YtboobimpoddacaaGreatDoorLots
namespace Go.Proofs.YtboobimpoddacaaGreatDoor
open Go.RowKit
set_option linter.unusedVariables false

theorem rStep_no {cs : List Int} {left : List Bool} {b : Int} {k : Nat} (h : left[k]? = some true) : rStep cs left b (k : Int) = b := by
  unfold rStep
  rw [Int.toNat_natCast, List.getD_eq_getElem?_getD, h]
  simp
theorem rStep_first {cs : List Int} {left : List Bool} {k : Nat} (h : left[k]? = some false) : rStep cs left (-1) (k : Int) = k := by
  unfold rStep
  rw [Int.toNat_natCast, List.getD_eq_getElem?_getD, h]
  rfl
theorem rStep_cmp {cs : List Int} {left : List Bool} {k q : Nat} {z y : Int} (h : left[k]? = some false) (hz : cs[k]? = some z) (hy : cs[q]? = some y) : rStep cs left (q : Int) (k : Int) = if z ≤ y then (k : Int) else (q : Int) := by
  unfold rStep cAt
  rw [Int.toNat_natCast, Int.toNat_natCast, List.getD_eq_getElem?_getD, h, List.getD_eq_getElem?_getD, List.getD_eq_getElem?_getD, hz, hy]
  have : ¬ ((q : Int) < 0) := by omega
  simp [this]
def rndsOK (ps : List Pl) (lots : List Int) : Bool := lotsValid lots && fitOK ps lots.length

set_option maxHeartbeats 8000000 in
theorem c_RunoffRounds (lo lo' : Nat) (A0 B0 : Option Addr) (np cap N cap' : Nat) (ps : List Pl) (lots : List Int) (w : World) (h : Piles w lo A0 np cap ps) (h' : Ints w lo' B0 N cap' lots) (hs : ∀ p ∈ ps, p.1.size ≤ 2000000) (hfit : fitOK ps N = true) (hp : lots.Perm (iota N)) :
    Calls Tryz.prog 57 #[.slice A0 np cap, .slice B0 N cap'] w fun e w' => ∃ A n c hd, e = .returned (.tuple #[.slice A n c, .bool true]) ∧ w.grownBy w' none ∧ OwnRnds w' w.heap.size A n c (rRounds ps lots) hd := by
  have hlc := h'.le
  have hcm := h'.max
  have hll := Lib.hid h'.len
  have Hs := Lib.hid hs
  have Hp := Lib.hid hp
  have Hfit := Lib.hid hfit
  have hN5 : N ≤ 5 := by have := (fit_many hfit).2.2; omega
  have hN1 : 1 ≤ N := by have := (fit_many hfit).2.2; omega
  have hrange := Lib.hid (show ∀ z ∈ lots, 0 ≤ z ∧ z < (N : Int) from fun z hz => mem_iota.1 (hp.mem_iff.1 hz))
  have hval := Lib.hid (perm_valid hp ⟨hN1, hN5⟩)
  clear hs hp hfit
  go_enter Tryz.func57, Tryz.ntmps57
  go_wp2_with fail
  refine (c_impl_LotsValid lo' B0 N cap' lots _ h').mono ?_
  rintro e w1 ⟨rfl, rfl⟩
  rw [hval.out]
  go_wp2_with fail
  refine (c_pilesFit lo A0 np cap ps _ _ h Hs.out).mono ?_
  rintro e wb ⟨rfl, hgb⟩
  rw [Hfit.out]
  obtain ⟨w0, hmk, hg0, hown0⟩ := mk_bools N (by omega) wb
  have hG0 := gb_trans hgb hg0
  have hb0 : wb.heap.size < w0.heap.size := (hown0.lt wb.heap.size rfl).2
  have hwb := hgb.size
  have hO0 := OwnRnds.nil w0 w0.heap.size
  have hG0w : w.heap.size ≤ w0.heap.size := hG0.size
  go_wp2
  clear hmk hgb
  go_loopw [7] (fun v wr => ∃ (k f : Nat) (A : Option Addr) (cA : Nat) (rs : List Rnd) (hs : List Hd) (left : List Bool), k + f = N ∧ 1 ≤ f ∧ v = .slice A k cA ∧ OwnRnds wr w0.heap.size A k cA rs hs ∧
    wr.ownsRow wb.heap.size 4 1 (.slice (some ⟨wb.heap.size, 0, none⟩) N N) N (left.map Value.bool) ∧ w.grownBy wr none ∧ w0.heap.size ≤ wr.heap.size ∧ Hid (left.count false = f ∧ rRounds ps lots = rs ++ rGo ps lots f left)) (fun v _ => N - slLen v)
  case atStart => exact ⟨0, N, _, _, [], [], List.replicate N false, by omega, hN1, rfl, hO0, hown0, hG0, Nat.le_refl _, Lib.hid ⟨by simp, by unfold rRounds; rw [hll.out]; rfl⟩⟩
  case round =>
    obtain ⟨k, f, A, cA, rs, hs, left, hkf, hf1, rfl, hO, hL, hG, hwr0, hpre⟩ := hrel
    rename World => wr
    clear hO0 hG0 hown0 hg0
    have hleft : Bls wr wb.heap.size (some ⟨wb.heap.size, 0, none⟩) N N left := Sl.own hL
    have hyl := Lib.hid hleft.len
    have hcall := c_firstCounts lo wb.heap.size A0 (some ⟨wb.heap.size, 0, none⟩) np cap N N ps left wr (h.keep0 hG) hleft Hs.out Hfit.out
    obtain ⟨cs, hcs⟩ : ∃ cs, fCounts left ps = cs := ⟨_, rfl⟩
    have hcsl := Lib.hid (show cs.length = N by rw [← hcs, fCounts_len, hyl.out])
    have hcsb := Lib.hid (show ∀ z ∈ cs, 0 ≤ z ∧ z ≤ 1188 by rw [← hcs]; exact fit_bounds Hfit.out left)
    rw [hcs] at hcall
    have Hc := Lib.hid hcall
    have Hcs := Lib.hid hcs
    clear hcall hcs hleft
    go_wp2_with fail
    refine Hc.out.mono ?_
    rintro e w2 ⟨D, rfl, hg2, hD⟩
    clear Hc
    obtain ⟨gD, rfl, hgD0, hgD1⟩ := own_adr hD (by omega)
    have hL2 := own_below hL hg2
    have hO2 := hO.keep hg2
    have hG2 := gb_trans hG hg2
    have hwr2 := hg2.size
    have hga := gb_alloc (gb_refl w2 none) (.cells #[.slice (some ⟨gD, 0, none⟩) N N, .int .i64 (-1)] 83)
    have hBk := Blk.new w2 83 #[.slice (some ⟨gD, 0, none⟩) N N, .int .i64 (-1)]
    obtain ⟨w3, hw3⟩ : ∃ w3, w2.alloc (.cells #[.slice (some ⟨gD, 0, none⟩) N N, .int .i64 (-1)] 83) = w3 := ⟨_, rfl⟩
    obtain ⟨g9, hg9⟩ : ∃ g9, w2.heap.size = g9 := ⟨_, rfl⟩
    have HW := Lib.hid (And.intro hw3 hg9)
    rw [hw3] at hga hBk
    rw [hg9] at hBk
    have hD3 := own_below hD hga
    have hL3 := own_below hL2 hga
    have hO3 := hO2.keep hga
    have hG3 := gb_trans hG2 hga
    have hsz93 : g9 < w3.heap.size := hBk.lt
    have hI3 : Ints w3 wr.heap.size (some ⟨gD, 0, none⟩) N N cs := Sl.own hD3
    have hleft3 : Bls w3 wb.heap.size (some ⟨wb.heap.size, 0, none⟩) N N left := Sl.own hL3
    obtain ⟨V, hV⟩ : ∃ V, rDone cs left = V := ⟨_, rfl⟩
    have HV := Lib.hid hV
    have hcall := c_runoffDone wr.heap.size wb.heap.size (some ⟨gD, 0, none⟩) (some ⟨wb.heap.size, 0, none⟩) N N N cs left w3 hI3 hleft3 hcsb.out hN5 hN1
    rw [hV] at hcall
    have Hc := Lib.hid hcall
    have c0 := hBk.cell 0
    have c1 := hBk.cell 1
    have hDne : (Value.slice (some ⟨gD, 0, none⟩) N N).ownBlock = none ∨ (Value.slice (some ⟨gD, 0, none⟩) N N).ownBlock ≠ (Value.slice A k cA).ownBlock := own_ne_high hD (fun g e => (hO.row.lt g e).2)
    have hAlt : ∀ g, (Value.slice A k cA).ownBlock = some g → g < wr.heap.size := fun g e => (hO.row.lt g e).2
    have hAge : ∀ g, (Value.slice A k cA).ownBlock = some g → w0.heap.size ≤ g := fun g e => (hO.row.lt g e).1
    have hg9wr : wr.heap.size ≤ g9 := by rw [← hg9]; exact hwr2
    have hgD9 : gD < g9 := by rw [← hg9]; exact hgD1
    have hg9w : w.heap.size ≤ g9 := Nat.le_trans hG.size hg9wr
    have hAne : ∀ {o : Option Nat}, o = some g9 → o ≠ (Value.slice A k cA).ownBlock := fun ho e => by
      rw [ho] at e
      have := hAlt g9 e.symm
      omega
    have hgr3 := gb_trans hg2 hga
    have HO := Lib.hid hO
    have HL := Lib.hid hL
    have HD := Lib.hid hD
    have HDne := Lib.hid hDne
    have HAne := Lib.hid (hAne rfl)
    have HLA : Hid ((Value.slice (some ⟨wb.heap.size, 0, none⟩) N N).ownBlock = none ∨ (Value.slice (some ⟨wb.heap.size, 0, none⟩) N N).ownBlock ≠ (Value.slice A k cA).ownBlock) := Lib.hid (.inr (fun e => by
      have e2 : (Value.slice A k cA).ownBlock = some wb.heap.size := e.symm
      have := hAge _ e2
      omega))
    have hrow3 := hO3.row
    have hw03 : w0.heap.size ≤ w3.heap.size := Nat.le_trans hwr0 hgr3.size
    have Hend := Lib.hid (fun (o : Int) (wq : World) (hq : wr.grownBy wq none) (hDq : w2.grownBy wq none) (A' : Option Addr) (c' : Nat) (w5 : World) (hown5 : w5.ownsRow w0.heap.size 83 2 (.slice A' (k + 1) c') (k + 1) (cellsOf rndCells (rs.zip hs) ++ [.slice (some ⟨gD, 0, none⟩) N N, .int .i64 o])) (hg5 : wq.grownBy w5 (Value.slice A k cA).ownBlock) (hat5 : (Value.slice A' (k + 1) c').ownBlock = (Value.slice A k cA).ownBlock ∨ ∃ g, (Value.slice A' (k + 1) c').ownBlock = some g ∧ wq.heap.size ≤ g) =>
      (HO.out.keep hq).push (r := (cs, o)) (d := (some ⟨gD, 0, none⟩, N)) (by show World.ownsRow _ _ _ _ (Value.slice _ cs.length N) cs.length _; rw [hcsl.out]; exact own_lo (own_below HD.out hDq) hwr0) (by show (Value.slice _ cs.length N).ownBlock = none ∨ _; rw [hcsl.out]; exact HDne.out) (by show World.ownsRow _ _ _ _ _ _ (_ ++ [.slice _ cs.length N, .int .i64 o]); rw [hcsl.out]; exact hown5) hg5 hat5)
    clear hcall hV hD hL2 hO2 hG2 hO hL hG hDne hAne
    go_wp2_with fail
    refine Hc.out.mono ?_
    rintro e w4 ⟨rfl, rfl⟩
    clear Hc hw3 hg9
    cases V with
    | true =>
      have hfin : Hid (rRounds ps lots = rs ++ [(cs, -1)]) := Lib.hid (by
        obtain ⟨f', rfl⟩ : ∃ f', f = f' + 1 := ⟨f - 1, by omega⟩
        rw [hpre.out.2, rGo, Hcs.out, HV.out, if_pos rfl])
      have hq2 : w2.grownBy w3 none := by have := HW.out; rw [← this.1]; exact gb_alloc (gb_refl _ _) _
      clear hL3 hleft3 hI3 hD3
      go_wp2_with (at_builtin; refine wpList_app roundE rfl _ _ rfl w0.heap.size k _ _ rfl hrow3 [_, _] rfl rfl (by simp [Value.oneCell']) (by omega) (by omega) hw03 ?_; intro A' c' w5 hown5 hb5 hg5 hat5; have c1' := gb_cell hg5 c1 HAne.out)
      have hpu := Hend.out (-1) w3 hgr3 hq2 A' c' w5 hown5 hg5 hat5
      go_ret2
      exact ⟨A', k + 1, c', _, rfl, gb_of_below ((gb_below hG3).trans (hb5.mono (Nat.le_trans hG0w (Nat.le_refl _)))) none, by rw [hfin.out]; exact hpu.wide hG0w⟩
    | false =>
      obtain ⟨f', rfl⟩ : ∃ f', f = f' + 1 := ⟨f - 1, by omega⟩
      have hcount : 1 ≤ left.count false := by rw [hpre.out.1]; omega
      obtain ⟨o, ho, hoN, hos, hoc⟩ := rOut_count (cs := cs) Hp.out hyl.out hcount
      have hf'0 : 1 ≤ f' := by
        refine Nat.one_le_iff_ne_zero.2 (fun e => ?_)
        have h1 := HV.out
        unfold rDone at h1
        rw [hpre.out.1, e] at h1
        simp at h1
      have hfin : Hid ((left.set o true).count false = f' ∧ rRounds ps lots = (rs ++ [(cs, (o : Int))]) ++ rGo ps lots f' (left.set o true)) := Lib.hid ⟨by have := hpre.out.1; omega, by
        rw [hpre.out.2, rGo, Hcs.out, HV.out, if_neg (by simp), ho, Int.toNat_natCast, List.append_assoc]
        rfl⟩
      have Ho := Lib.hid ho
      have hq2 : w2.grownBy w3 none := by have := HW.out; rw [← this.1]; exact gb_alloc (gb_refl _ _) _
      have h2g9 : w2.heap.size ≤ g9 := by have := HW.out; rw [this.2]; exact Nat.le_refl _
      have HL3 := Lib.hid hL3
      have HD3 := Lib.hid hD3
      clear hpre hcount hos hoc ho hL3 hleft3 hI3 hD3 hrow3 hO3
      go_wp2
      go_loopw [36] (fun i wq => ∃ (j : Nat) (o : Int), j ≤ N ∧ i = .int .i64 j ∧ w3.grownBy wq (some g9) ∧ Blk wq g9 83 #[.slice (some ⟨gD, 0, none⟩) N N, .int .i64 o] ∧ (o = -1 ∨ ∃ q : Nat, o = (q : Int) ∧ q < N) ∧ Hid (o = (lots.take j).foldl (rStep cs left) (-1))) (fun i _ => N - (intOf i).toNat)
      case atStart => exact ⟨0, -1, Nat.zero_le _, rfl, gb_refl _ _, hBk, .inl rfl, Lib.hid rfl⟩
      case round =>
        obtain ⟨j, o', hj, rfl, hgq, hBq, hor, hpre⟩ := hrel
        rename World => wq
        clear c0 c1 hBk
        have c0 := hBq.cell 0
        have c1 := hBq.cell 1
        have f1 := hBq.frozen 1
        have hq0 : w.grownBy wq none := gb_step hG3 hgq (fun g e => by injection e with e; exact .inr (by omega))
        have hqr : wr.grownBy wq none := gb_step hgr3 hgq (fun g e => by injection e with e; exact .inr (by omega))
        have hLq := HL3.out.kept hgq (.inr (by simp [Value.ownBlock]; omega))
        have hDq := HD3.out.kept hgq (.inr (by simp [Value.ownBlock]; omega))
        by_cases hlt : j < N
        · have hIo := h'.keep0 hq0
          have hlq : Bls wq wb.heap.size (some ⟨wb.heap.size, 0, none⟩) N N left := Sl.own hLq
          have hcq : Ints wq wr.heap.size (some ⟨gD, 0, none⟩) N N cs := Sl.own hDq
          obtain ⟨bo, offo, z, rfl, hz, hcello⟩ := Ints.at_ hIo hlt
          have hzr := hrange.out z (List.mem_of_getElem? hz.out)
          obtain ⟨c, rfl⟩ : ∃ c : Nat, z = (c : Int) := ⟨z.toNat, by omega⟩
          have hcn : c < N := by omega
          obtain ⟨b', off', l, he, hl, hcell'⟩ := hlq.at_ hcn
          injection he with he
          injection he with he1 he2
          subst he1 he2
          obtain ⟨bc, offc, u, he, hu, hcellu⟩ := Ints.at_ hcq hcn
          injection he with he
          injection he with he1 he2
          subst he1 he2
          rw [Nat.zero_add] at hcell' hcellu
          have hj' : (j : Int) < (N : Int) := by omega
          have hj0 : (0 : Int) ≤ (j : Int) := by omega
          have hc' : (c : Int) < (N : Int) := by omega
          have hc0 : (0 : Int) ≤ (c : Int) := by omega
          have hst : Hid ((lots.take (j + 1)).foldl (rStep cs left) (-1) = rStep cs left o' (c : Int)) := Lib.hid (by rw [take_succ_of hz.out, List.foldl_append, hpre.out]; rfl)
          clear hpre hz hzr hLq hDq hIo hlq
          cases l with
          | true =>
            have hs2 := Lib.hid (rStep_no (cs := cs) (b := o') hl.out)
            go_wp2
            go_quiet (fail)
            go_wp2
            go_roundw
            case rel => exact ⟨j + 1, o', by omega, by go_num, gb_drewN hgq _, hBq.drewN _, hor, Lib.hid (by rw [hst.out, hs2.out])⟩
            case measure => simp [intOf]; omega
          | false =>
            rcases hor with rfl | ⟨q, rfl, hq⟩
            · have hs2 := Lib.hid (rStep_first (cs := cs) hl.out)
              go_wp2
              go_quiet (fail)
              go_wp2
              go_roundw
              case rel => exact ⟨j + 1, (c : Int), by omega, by go_num, gb_setCell (gb_drewN hgq _) (.inl rfl) _, (hBq.drewN _).set_ 1 _, .inr ⟨c, rfl, hcn⟩, Lib.hid (by rw [hst.out, hs2.out])⟩
              case measure => simp [intOf]; omega
            · obtain ⟨b3, off3, y, he, hy, hcelly⟩ := Ints.at_ hcq hq
              injection he with he
              injection he with he1 he2
              subst he1 he2
              rw [Nat.zero_add] at hcelly
              have hs2 := Lib.hid (rStep_cmp hl.out hu.out hy.out)
              have hq' : (q : Int) < (N : Int) := by omega
              have hq0' : (0 : Int) ≤ (q : Int) := by omega
              have hqn : ¬ ((q : Int) < 0) := by omega
              clear hu hy hl hcq
              by_cases huy : u ≤ y
              · have hd : decide (u ≤ y) = true := by simpa using huy
                go_wp2
                go_quiet (fail)
                go_wp2
                go_roundw
                case rel => exact ⟨j + 1, (c : Int), by omega, by go_num, gb_setCell (gb_drewN hgq _) (.inl rfl) _, (hBq.drewN _).set_ 1 _, .inr ⟨c, rfl, hcn⟩, Lib.hid (by rw [hst.out, hs2.out, if_pos (by omega)])⟩
                case measure => simp [intOf]; omega
              · have hd : decide (u ≤ y) = false := by simpa using huy
                go_wp2
                go_quiet (fail)
                go_wp2
                go_roundw
                case rel => exact ⟨j + 1, (q : Int), by omega, by go_num, gb_drewN hgq _, hBq.drewN _, .inr ⟨q, rfl, hq⟩, Lib.hid (by rw [hst.out, hs2.out, if_neg (by omega)])⟩
                case measure => simp [intOf]; omega
        · obtain rfl : N = j := by omega
          have hoo : o' = (o : Int) := by
            rw [hpre.out, List.take_of_length_le (by rw [hll.out]; exact Nat.le_refl _)]
            exact Ho.out
          subst hoo
          have hq2q : w2.grownBy wq none := gb_step hq2 hgq (fun g e => by injection e with e; exact .inr (by omega))
          have hrowq := (HO.out.keep hqr).row
          have hw0q : w0.heap.size ≤ wq.heap.size := Nat.le_trans hwr0 hqr.size
          have hon : ¬ ((o : Int) < 0) := by omega
          have ho' : (o : Int) < (N : Int) := by omega
          have ho0 : (0 : Int) ≤ (o : Int) := by omega
          clear hpre hor hDq hlt hj
          go_wp2_with (at_builtin; refine wpList_app roundE rfl _ _ rfl w0.heap.size k _ _ rfl hrowq [_, _] rfl rfl (by simp [Value.oneCell']) (by omega) (by omega) hw0q ?_; intro A' c' w5 hown5 hb5 hg5 hat5; have c1' := gb_cell hg5 c1 HAne.out; have hL5 := hLq.kept hg5 HLA.out; obtain ⟨u5, hc5⟩ := own_cell hL5 hoN; have hf5 := hL5.frozenAt o; obtain ⟨hst5, hgs5⟩ := hL5.stored o (.bool true))
          have hpu := Hend.out (o : Int) wq hqr hq2q A' c' w5 hown5 hg5 hat5
          have hO6 := hpu.keepLow hgs5 hb0
          have hL6 : (w5.setCell ⟨wb.heap.size, o, none⟩ (.bool true)).ownsRow wb.heap.size 4 1 (.slice (some ⟨wb.heap.size, 0, none⟩) N N) N ((left.set o true).map Value.bool) := by rw [List.map_set]; exact hst5
          have hG5 := gb_of_below ((gb_below hq0).trans (hb5.mono hG0w)) none
          have hG6 := gb_setCell (p := ⟨wb.heap.size, o, none⟩) hG5 (.inr hwb) (.bool true)
          have hw56 : w0.heap.size ≤ (w5.setCell ⟨wb.heap.size, o, none⟩ (.bool true)).heap.size := Nat.le_trans (Nat.le_trans hw0q hb5.size) hgs5.size
          clear hpu hst5 hown5 hL5 hLq hrowq Hend
          go_roundw
          case rel => exact ⟨k + 1, f', A', c', _, _, left.set o true, by omega, hf'0, rfl, hO6, hL6, hG6, hw56, hfin⟩
          case measure => simp [slLen]; omega
end Go.Proofs.YtboobimpoddacaaGreatDoor
