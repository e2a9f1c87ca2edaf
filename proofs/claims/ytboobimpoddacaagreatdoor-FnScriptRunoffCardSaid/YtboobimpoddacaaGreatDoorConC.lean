/-
  First preferences of the reference, who has the greatest count, who leaves; plurality.
-/
import Derived.Test.YtboobimpoddacaaGreatDoorConB
namespace Go.Proofs.YtboobimpoddacaaGreatDoor
open Go.RowKit
set_option linter.unusedVariables false

attribute [local go_sem] flowAct flowOp_def flowUpon
set_option maxHeartbeats 4000000 in
theorem c_l11Counts (lo lo' : Nat) (A B : Option Addr) (n cap m cap' : Nat) (ps : List Pl) (left : List Bool) (w : World) (h : Piles w lo A n cap ps) (h' : Bls w lo' B m cap' left) (hs : ∀ p ∈ ps, p.1.size ≤ 2000000) (hfit : fitOK ps m = true) :
    Calls Tryz.prog 101 #[.slice A n cap, .slice B m cap'] w fun e w' => ∃ D, e = .returned (.slice D m m) ∧ w.grownBy w' none ∧ w'.ownsRow w.heap.size 3 1 (.slice D m m) m ((fCounts left ps).map (Value.int .i64)) := by
  have hlc := h.1
  have hcm := Sl.max h
  have hxl := Lib.hid h.len
  have hlc' := Sl.le h'
  have hcm' := Sl.max h'
  have hyl := Lib.hid h'.len
  have Hs := Lib.hid hs
  unfold fitOK at hfit
  rw [Bool.and_eq_true, Bool.and_eq_true] at hfit
  have hm5 : 1 ≤ m ∧ m ≤ 5 := by have h1 : 1 ≤ (m : Int) ∧ (m : Int) ≤ 5 := by simpa [inB] using hfit.1.1
                                 omega
  have hn12 : n ≤ 12 := by have := ((pilesOK_iff ps).1 hfit.1.2).2.2; have := hxl.out; omega
  have hall := Lib.hid ((pilesOK_iff ps).1 hfit.1.2).1
  have hfits := Lib.hid (List.all_eq_true.1 hfit.2)
  obtain ⟨hm1, hm5⟩ := hm5
  clear hs hfit
  obtain ⟨w0, hmk, hga, hown0⟩ := mk_ints m (by omega) w
  go_enter Tryz.func101, Tryz.ntmps101
  go_wp2
  clear hmk
  go_loopw [6] (fun i wr => ∃ k : Nat, k ≤ n ∧ i = .int .i64 k ∧ w.grownBy wr none ∧ wr.ownsRow w.heap.size 3 1 (.slice (some ⟨w.heap.size, 0, none⟩) m m) m ((fCounts left (ps.take k)).map (Value.int .i64)) ∧ Hid (∀ z ∈ fCounts left (ps.take k), 0 ≤ z ∧ z ≤ 99 * (k : Int))) (fun i _ => n - (intOf i).toNat)
  case atStart => exact ⟨0, Nat.zero_le _, rfl, hga, by rw [List.take_zero]; show World.ownsRow _ _ _ _ _ _ ((List.replicate left.length (0 : Int)).map _); rw [hyl.out]; exact hown0, Lib.hid (fun z hz => by
    rw [List.take_zero] at hz
    have hz : z ∈ List.replicate left.length (0 : Int) := hz
    have := (List.mem_replicate.1 hz).2
    omega)⟩
  case round =>
    obtain ⟨k, hk, rfl, hG, hown, hbd⟩ := hrel
    rename World => wr
    clear hown0 hga
    by_cases hlt : k < n
    · obtain ⟨b, off, ⟨s, q⟩, rfl, _, _, hz, p0, p1⟩ := Piles.at_ (h.keep0 hG) hlt
      have hk' : (k : Int) < (n : Int) := by omega
      have hk0 : (0 : Int) ≤ (k : Int) := by omega
      have hmem := List.mem_of_getElem? hz.out
      have hpb := plOK_ballot (hall.out _ hmem)
      have hpm := plOK_many (hall.out _ hmem)
      have hft : ballotOK (ballotOf s) m = true := hfits.out _ hmem
      have hssz := Hs.out _ hmem
      have hstep : Hid (fCounts left (ps.take (k + 1)) = bump (fCounts left (ps.take k)) (bFirst left (ballotOf s)) q) := Lib.hid (by rw [take_succ_of hz.out, fCounts_snoc])
      have hbd' : Hid (∀ z ∈ bump (fCounts left (ps.take k)) (bFirst left (ballotOf s)) q, 0 ≤ z ∧ z ≤ 99 * ((k + 1 : Nat) : Int)) := Lib.hid (fun z hz' => by
        have := bump_bound (M := 99 * (k : Int)) hbd.out (by omega) (by have : 1 ≤ q ∧ q ≤ 99 := hpm; omega) z hz'
        omega)
      have hq0 : 0 ≤ q := by have : 1 ≤ q ∧ q ≤ 99 := hpm; omega
      have hq1 : q ≤ 99 := hpm.2
      have hfl := fCounts_len left (ps.take k)
      rw [hyl.out] at hfl
      have hcall := c_spec_BallotParse s wr hssz
      unfold ParseRes at hcall
      rw [if_pos hpb, if_pos hpb, hpb] at hcall
      obtain ⟨N, hN⟩ : ∃ N, s.size = N := ⟨_, rfl⟩
      rw [hN] at hcall
      have Hc := Lib.hid hcall
      clear hmem hpm hcall hN hpb hssz
      go_wp2_with fail
      refine Hc.out.mono ?_
      rintro e w3 ⟨B3, c3, rfl, hg3, ho3⟩
      have hI3 : Ints w3 wr.heap.size B3 N c3 (ballotOf s) := Sl.own ho3
      have hown3 := own_below hown hg3
      have hG3 := gb_trans hG hg3
      have h3' : Bls w3 lo' B m cap' left := Sl.keep0 h' hG3
      have p0' := gb_cell hg3 p0 (by simp)
      have p1' := gb_cell hg3 p1 (by simp)
      have hrg := bFirst_range (left := left) ((ballotOK_iff (ballotOf s) m).1 hft).2.2
      have hcall := c_l1First _ _ B3 B N c3 m cap' (ballotOf s) left w3 hI3 h3' ((ballotOK_iff (ballotOf s) m).1 hft).2.2
      obtain ⟨cc, hcc⟩ : ∃ cc, bFirst left (ballotOf s) = cc := ⟨_, rfl⟩
      rw [hcc] at hcall hrg hstep hbd'
      have Hc2 := Lib.hid hcall
      clear hg3 hown hG hcall hcc hft hI3 Hc ho3 p0 p1
      go_wp2_with fail
      refine Hc2.out.mono ?_
      rintro e w4 ⟨rfl, rfl⟩
      clear Hc2
      rcases hrg with rfl | ⟨hc0, hcm5⟩
      · go_wp2
        go_roundw
        case rel => exact ⟨k + 1, by omega, by go_num, hG3, by rw [hstep.out]; exact hown3, by rw [hstep.out]; exact hbd'⟩
        case measure => simp [intOf]; omega
      · obtain ⟨c, rfl⟩ : ∃ c : Nat, cc = (c : Int) := ⟨cc.toNat, by omega⟩
        have hcm : c < m := by omega
        have hcl : c < (fCounts left (ps.take k)).length := by rw [hfl]; exact hcm
        obtain ⟨F, hF⟩ : ∃ F, (fCounts left (ps.take k))[c]? = some F := ⟨_, List.getElem?_eq_getElem hcl⟩
        have hFb := hbd.out F (List.mem_of_getElem? hF)
        have hcell : w3.cell? ⟨w.heap.size, c, none⟩ = some (.int .i64 F) := by
          rw [hown3.cellAt c (by omega), List.getElem?_map, hF]
          rfl
        have hbump : Hid (bump (fCounts left (ps.take k)) (c : Int) q = (fCounts left (ps.take k)).set c (F + q)) := Lib.hid (by
          unfold bump
          rw [if_pos hc0, Int.toNat_natCast, List.getD_eq_getElem?_getD, hF]
          rfl)
        have hF0 : 0 ≤ F := hFb.1
        have hF1 : F ≤ 1188 := by have := hFb.2; omega
        have hadd : IntKind.i64.wrap (F + q) = F + q := IntWalk.i64_in _ (by omega)
        have hc00 : (0 : Int) ≤ (c : Int) := by omega
        have hcmi : (c : Int) < (m : Int) := by omega
        have HF := Lib.hid hF
        have HfK := Lib.hid (fun (x : World) (hx : w3.grownBy x none) => (own_below hown3 hx).frozenAt c)
        have HsK := Lib.hid (fun (x : World) (hx : w3.grownBy x none) => show (x.setCell ⟨w.heap.size, c, none⟩ (.int .i64 (F + q))).ownsRow w.heap.size 3 1 (.slice (some ⟨w.heap.size, 0, none⟩) m m) m (((fCounts left (ps.take k)).set c (F + q)).map (Value.int .i64)) from by rw [List.map_set]; exact ((own_below hown3 hx).stored c (.int .i64 (F + q))).1)
        clear hF hFb hfl
        go_wp2_with fail
        refine wp_known_tail w3 [_, _, _, _, _, _, _, _, _, _, _, _, _] _ [.slice (some ⟨w.heap.size, 0, none⟩) m m, .int .i64 c, .slice (some ⟨w.heap.size, 0, none⟩) m m, .int .i64 c, .pointer (some ⟨w.heap.size, c, none⟩), .int .i64 F, .slice (some ⟨b, off, none⟩) n cap, .int .i64 k, .pointer (some ⟨b, off + k * 2, none⟩), .pointer (some ⟨b, off + k * 2 + 1, none⟩), .int .i64 q, .int .i64 (F + q), .pointer (some ⟨w.heap.size, c, none⟩)] rfl (gb_refl _ _) (by kernel_rfl) (by kernel_rfl) (by kernel_rfl) ?_ ?_
        · refine ⟨?_, ?_, ?_, ?_, ?_, ?_, ?_, ?_, ?_, ?_, ?_, ?_, ?_, trivial⟩
          all_goals
            intro nn u y hn hC hp
            simp [flowPreds, Region.binds, fKnown] at hp
            have n0 := gb_cell hC hcell (by simp)
            have n1 := gb_cell hC p1' (by simp)
            go_simp
          all_goals try exact ⟨gb_refl _ _, rfl⟩
        · intro u y hC hp'
          have e6 : u 11 = .int .i64 (F + q) := hp' 11 (by decide)
          have e7 : u 12 = .pointer (some ⟨w.heap.size, c, none⟩) := hp' 12 (by decide)
          have hfy := HfK.out y hC
          have hsy := HsK.out y hC
          have n0 := gb_cell hC hcell (by simp)
          go_simp
          go_wp2
          go_roundw
          case rel => exact ⟨k + 1, by omega, by go_num, gb_setCell (gb_trans hG3 hC) (.inr (Nat.le_refl _)) _, by rw [hstep.out, hbump.out]; exact hsy, by rw [hstep.out]; exact hbd'⟩
          case measure => simp [intOf]; omega
    · obtain rfl : k = n := by omega
      rw [List.take_of_length_le (by rw [hxl.out]; exact Nat.le_refl _)] at hown
      go_wp2
      go_ret
      exact ⟨_, rfl, hG, hown⟩

theorem zip_take_succ {cs : List Int} {bs : List Bool} {k : Nat} {z : Int} {b : Bool} (h1 : cs[k]? = some z) (h2 : bs[k]? = some b) : (cs.zip bs).take (k + 1) = (cs.zip bs).take k ++ [(z, b)] :=
  take_succ_of (by rw [List.getElem?_zip_eq_some]; exact ⟨h1, h2⟩)

set_option maxHeartbeats 1000000 in
theorem c_l11Most (lo lo' : Nat) (A B : Option Addr) (n cap cap' : Nat) (cs : List Int) (bs : List Bool) (w : World) (h : Ints w lo A n cap cs) (h' : Bls w lo' B n cap' bs) (hn : n ≤ 1000) :
    Calls Tryz.prog 140 #[.slice A n cap, .slice B n cap'] w fun e w' => ∃ D c, e = .returned (.slice D n c) ∧ w.grownBy w' none ∧ w'.ownsRow w.heap.size 4 1 (.slice D n c) n ((mostB cs bs).map Value.bool) := by
  have hlc := h.le
  have hcm := h.max
  have hxl := Lib.hid h.len
  have hlc' := Sl.le h'
  have hcm' := Sl.max h'
  have hyl := Lib.hid h'.len
  go_enter Tryz.func140, Tryz.ntmps140
  go_wp2
  go_loopw [5, 6] (fun v i wr => ∃ (k : Nat) (F : Int), k ≤ n ∧ i = .int .i64 k ∧ v = .int .i64 F ∧ wr = w ∧ Hid (F = mFold ((cs.zip bs).take k) (-1))) (fun _ i _ => n - (intOf i).toNat)
  case atStart => exact ⟨0, -1, Nat.zero_le _, rfl, rfl, rfl, Lib.hid rfl⟩
  case round =>
    obtain ⟨k, F, hk, rfl, rfl, rfl, hF⟩ := hrel
    by_cases hlt : k < n
    · obtain ⟨b, off, z, rfl, hz, hcell⟩ := h.at_ hlt
      obtain ⟨b', off', l, rfl, hl, hcell'⟩ := h'.at_ hlt
      have hk' : (k : Int) < (n : Int) := by omega
      have hk0 : (0 : Int) ≤ (k : Int) := by omega
      have hst : Hid (mFold ((cs.zip bs).take (k + 1)) (-1) = if l then max F z else F) := Lib.hid (by rw [zip_take_succ hz.out hl.out, mFold_snoc, hF.out])
      clear hz hl hF
      cases l with
      | true =>
        go_wp2
        go_roundw
        case rel => exact ⟨k + 1, max F z, by omega, by go_num, by first | rfl | (congr 1; split <;> omega), (by first | rfl | trivial), Lib.hid hst.out.symm⟩
        case measure => simp [intOf]; omega
      | false =>
        go_wp2
        go_roundw
        case rel => exact ⟨k + 1, F, by omega, by go_num, rfl, (by first | rfl | trivial), Lib.hid hst.out.symm⟩
        case measure => simp [intOf]; omega
    · obtain rfl : k = n := by omega
      have hM : Hid (F = mMax cs bs) := Lib.hid (by rw [hF.out, List.take_of_length_le (by rw [List.length_zip, hxl.out, hyl.out]; omega)]; rfl)
      clear hF
      rename World => wq
      go_wp2
      go_loopw [7, 8] (fun v i wr => ∃ (j : Nat) (D : Option Addr) (c : Nat), j ≤ k ∧ i = .int .i64 j ∧ v = .slice D j c ∧ wr.ownsRow wq.heap.size 4 1 (.slice D j c) j (((mostB cs bs).take j).map Value.bool) ∧ Below wq.heap.size wq wr) (fun _ i _ => k - (intOf i).toNat)
      case atStart => exact ⟨0, _, _, Nat.zero_le _, rfl, rfl, own_empty _ _ _ _ (Nat.le_refl _), (Below.refl _ _).alloc (Nat.le_refl _) _⟩
      case round =>
        obtain ⟨j, D, c, hj, rfl, rfl, hown, hb⟩ := hrel
        rename World => wr
        by_cases hjt : j < k
        · have hbs := hb.size
          have hj' : (j : Int) < (k : Int) := by omega
          have hj0 : (0 : Int) ≤ (j : Int) := by omega
          have hIr := h.keep0 (gb_of_below hb none)
          have hBr : Bls wr lo' B k cap' bs := Sl.keep0 h' (gb_of_below hb none)
          obtain ⟨b, off, z, rfl, hz, hcell⟩ := Ints.at_ hIr hjt
          obtain ⟨b', off', l, rfl, hl, hcell'⟩ := hBr.at_ hjt
          have hst : Hid ((mostB cs bs).take (j + 1) = (mostB cs bs).take j ++ [l && decide (z = F)]) := Lib.hid (by
            refine take_succ_of ?_
            unfold mostB
            rw [List.getElem?_map, (List.getElem?_zip_eq_some (z := (z, l))).2 ⟨hz.out, hl.out⟩, hM.out]
            rfl)
          clear hz hl hIr hBr
          cases l with
          | true =>
            by_cases hzF : z = F
            · have hzb : (z == F) = true := by simpa using hzF
              have hzd : Hid (decide (z = F) = true) := Lib.hid (by simpa using hzF)
              clear hzF
              go_wp2_with (at_builtin; refine wpList_app boolE rfl _ _ rfl wq.heap.size j _ _ rfl hown [_] rfl rfl (by simp [Value.oneCell']) (by omega) (by omega) hbs ?_; intro A' c' w1 hown1 hb1 hg1 hat1)
              go_roundw
              case rel => exact ⟨j + 1, A', c', by omega, by go_num, rfl, by rw [hst.out, hzd.out, List.map_append]; exact hown1, hb.trans hb1⟩
              case measure => simp [intOf]; omega
            · have hzb : (z == F) = false := by simpa using hzF
              have hzd : Hid (decide (z = F) = false) := Lib.hid (by simpa using hzF)
              clear hzF
              go_wp2_with (at_builtin; refine wpList_app boolE rfl _ _ rfl wq.heap.size j _ _ rfl hown [_] rfl rfl (by simp [Value.oneCell']) (by omega) (by omega) hbs ?_; intro A' c' w1 hown1 hb1 hg1 hat1)
              go_roundw
              case rel => exact ⟨j + 1, A', c', by omega, by go_num, rfl, by rw [hst.out, hzd.out, List.map_append]; exact hown1, hb.trans hb1⟩
              case measure => simp [intOf]; omega
          | false =>
            go_wp2_with (at_builtin; refine wpList_app boolE rfl _ _ rfl wq.heap.size j _ _ rfl hown [_] rfl rfl (by simp [Value.oneCell']) (by omega) (by omega) hbs ?_; intro A' c' w1 hown1 hb1 hg1 hat1)
            go_roundw
            case rel => exact ⟨j + 1, A', c', by omega, by go_num, rfl, by rw [hst.out, List.map_append]; exact hown1, hb.trans hb1⟩
            case measure => simp [intOf]; omega
        · obtain rfl : j = k := by omega
          rw [List.take_of_length_le (by unfold mostB; rw [List.length_map, List.length_zip, hxl.out, hyl.out]; omega)] at hown
          go_wp2
          go_ret
          exact ⟨D, c, rfl, gb_of_below hb none, hown⟩
end Go.Proofs.YtboobimpoddacaaGreatDoor
