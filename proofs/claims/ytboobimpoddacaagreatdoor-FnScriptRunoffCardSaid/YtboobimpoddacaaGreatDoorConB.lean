/-
  Counts: first preferences of the reference, the greatest ones, whether a runoff is done, who leaves.
-/
import Derived.Test.YtboobimpoddacaaGreatDoorConA
namespace Go.Proofs.YtboobimpoddacaaGreatDoor
open Go.RowKit
set_option linter.unusedVariables false

theorem c_l1First (lo lo' : Nat) (A B : Option Addr) (n cap m cap' : Nat) (xs : List Int) (left : List Bool) (w : World) (h : Ints w lo A n cap xs) (h' : Bls w lo' B m cap' left) (hr : ∀ z ∈ xs, 0 ≤ z ∧ z < (m : Int)) :
    Calls Tryz.prog 133 #[.slice A n cap, .slice B m cap'] w fun e w' => e = .returned (.int .i64 (bFirst left xs)) ∧ w = w' := by
  have hlc := h.le
  have hcm := h.max
  have hxl := Lib.hid h.len
  have hlc' := Sl.le h'
  have hcm' := Sl.max h'
  have hall := Lib.hid hr
  clear hr
  go_enter Tryz.func133, Tryz.ntmps133
  go_wp2
  go_loop [5] (fun i => ∃ k : Nat, k ≤ n ∧ i = .int .i64 k ∧ Hid (bFirst left xs = bFirst left (xs.drop k))) (fun i => n - (intOf i).toNat)
  case atStart => exact ⟨0, Nat.zero_le _, rfl, Lib.hid rfl⟩
  case round =>
    obtain ⟨k, hk, rfl, hpre⟩ := hrel
    by_cases hlt : k < n
    · obtain ⟨b, off, z, rfl, hz, hcell⟩ := h.at_ hlt
      have hzr := hall.out z (List.mem_of_getElem? hz.out)
      obtain ⟨c, rfl⟩ : ∃ c : Nat, z = (c : Int) := ⟨z.toNat, by omega⟩
      have hcm : c < m := by omega
      obtain ⟨b', off', l, rfl, hl, hcell'⟩ := h'.at_ hcm
      have hk' : (k : Int) < (n : Int) := by omega
      have hk0 : (0 : Int) ≤ (k : Int) := by omega
      have hc0 : (0 : Int) ≤ (c : Int) := by omega
      have hcm' : (c : Int) < (m : Int) := by omega
      have hst : Hid (bFirst left (xs.drop k) = if l = false then (c : Int) else bFirst left (xs.drop (k + 1))) := Lib.hid (by
        rw [drop_cons' hz.out, bFirst, Int.toNat_natCast, List.getD_eq_getElem?_getD, hl.out]
        rfl)
      clear hz hl hzr
      cases l with
      | false =>
        go_wp2
        go_ret
        exact ⟨ret_int (by rw [hpre.out, hst.out]; simp), rfl⟩
      | true =>
        go_wp2
        go_round
        case rel => exact ⟨k + 1, by omega, by go_num, Lib.hid (by rw [hpre.out, hst.out]; simp)⟩
        case measure => simp [intOf]; omega
    · obtain rfl : k = n := by omega
      go_wp2
      go_ret
      exact ⟨ret_int (by rw [hpre.out, List.drop_of_length_le (by rw [hxl.out]; exact Nat.le_refl _)]; rfl), rfl⟩

theorem fit_not {ps : List Pl} {m : Int} {p : Pl} (hp : p ∈ ps) (h : ballotOK (if ballotOK (ballotOf p.1) 5 = true then ballotOf p.1 else []) m = false) : fitOK ps m = false := by
  rw [Bool.eq_false_iff]
  intro hf
  unfold fitOK at hf
  rw [Bool.and_eq_true, Bool.and_eq_true] at hf
  have h1 := plOK_ballot (((pilesOK_iff ps).1 hf.1.2).1 p hp)
  have h2 := List.all_eq_true.1 hf.2 p hp
  rw [if_pos h1] at h
  rw [h] at h2
  cases h2
theorem fit_yes {ps : List Pl} {m : Int} (h : ∀ p ∈ ps, ballotOK (if ballotOK (ballotOf p.1) 5 = true then ballotOf p.1 else []) m = true) : fitOK ps m = (pilesOK ps && inB m 1 5) := by
  unfold fitOK
  cases hv : pilesOK ps with
  | false => simp
  | true =>
    have : (ps.all fun p => ballotOK (ballotOf p.1) m) = true := List.all_eq_true.2 (fun p hp => by
      have h1 := plOK_ballot (((pilesOK_iff ps).1 hv).1 p hp)
      have := h p hp
      rwa [if_pos h1] at this)
    rw [this]
    simp

set_option maxHeartbeats 1000000 in
theorem c_l3Fits (lo : Nat) (A : Option Addr) (n cap : Nat) (ps : List Pl) (m : Int) (w : World) (h : Piles w lo A n cap ps) (hs : ∀ p ∈ ps, p.1.size ≤ 2000000) :
    Calls Tryz.prog 98 #[.slice A n cap, .int .i64 m] w fun e w' => e = .returned (.bool (fitOK ps m)) ∧ w.grownBy w' none := by
  have hlc := h.1
  have hcm := Sl.max h
  have hxl := Lib.hid h.len
  have Hs := Lib.hid hs
  clear hs
  go_enter Tryz.func98, Tryz.ntmps98
  go_wp2
  go_loopw [5] (fun i wr => ∃ k : Nat, k ≤ n ∧ i = .int .i64 k ∧ w.grownBy wr none ∧ Hid (∀ p ∈ ps.take k, ballotOK (if ballotOK (ballotOf p.1) 5 = true then ballotOf p.1 else []) m = true)) (fun i _ => n - (intOf i).toNat)
  case atStart => exact ⟨0, Nat.zero_le _, rfl, gb_refl _ _, Lib.hid (by simp)⟩
  case round =>
    obtain ⟨k, hk, rfl, hG, hpre⟩ := hrel
    rename World => wr
    by_cases hlt : k < n
    · obtain ⟨b, off, ⟨s, q⟩, rfl, _, _, hz, p0, p1⟩ := Piles.at_ (h.keep0 hG) hlt
      have hk' : (k : Int) < (n : Int) := by omega
      have hk0 : (0 : Int) ≤ (k : Int) := by omega
      have hmem := List.mem_of_getElem? hz.out
      have hssz := Hs.out _ hmem
      have hcall := c_spec_BallotParse s wr hssz
      obtain ⟨YS, hYS⟩ : ∃ ys, (if ballotOK (ballotOf s) 5 = true then ballotOf s else []) = ys := ⟨_, rfl⟩
      obtain ⟨N, hN⟩ : ∃ N, (if ballotOK (ballotOf s) 5 = true then s.size else 0) = N := ⟨_, rfl⟩
      unfold ParseRes at hcall
      rw [hYS, hN] at hcall
      obtain ⟨V, hV⟩ : ∃ V, ballotOK (ballotOf s) 5 = V := ⟨_, rfl⟩
      rw [hV] at hcall
      obtain ⟨D, hD⟩ : ∃ D, ballotOK YS m = D := ⟨_, rfl⟩
      have HD : Hid (ballotOK (if ballotOK (ballotOf s) 5 = true then ballotOf s else []) m = D) := Lib.hid (by rw [hYS, hD])
      have HY := Lib.hid hD
      have Hc := Lib.hid hcall
      have Hm := Lib.hid hmem
      clear hcall hYS hN hV hD hmem hssz
      go_wp2_with fail
      refine Hc.out.mono ?_
      rintro e w3 ⟨B, c, rfl, hg3, ho3⟩
      clear Hc
      have hG3 := gb_trans hG hg3
      have hI3 : Ints w3 wr.heap.size B N c YS := Sl.own ho3
      clear ho3 hg3
      go_wp2_with fail
      refine (c_spec_BallotValid _ B N c YS m _ hI3).mono ?_
      rintro e w4 ⟨rfl, d, rfl⟩
      have hG4 := gb_drewN hG3 d
      rw [HY.out]
      cases D with
      | false =>
        go_wp2
        go_ret
        exact ⟨ret_bool (fit_not Hm.out HD.out).symm, hG4⟩
      | true =>
        go_wp2
        go_roundw
        case rel => exact ⟨k + 1, by omega, by go_num, hG4, Lib.hid (fun p hp => by
          rw [take_succ_of hz.out] at hp
          rcases List.mem_append.1 hp with hp | hp
          · exact hpre.out p hp
          · rw [List.mem_singleton.1 hp]; exact HD.out)⟩
        case measure => simp [intOf]; omega
    · obtain rfl : k = n := by omega
      have hf : Hid (fitOK ps m = (pilesOK ps && inB m 1 5)) := Lib.hid (fit_yes (by
        have := hpre.out
        rwa [List.take_of_length_le (by rw [hxl.out]; exact Nat.le_refl _)] at this))
      obtain ⟨V, hV⟩ : ∃ V, pilesOK ps = V := ⟨_, rfl⟩
      have HV := Lib.hid hV
      clear hV hpre
      go_wp2_with fail
      refine (c_spec_PilesValid lo A k cap ps _ (h.keep0 hG) Hs.out).mono ?_
      rintro e w2 ⟨rfl, hg2⟩
      rw [HV.out]
      cases V with
      | false =>
        go_wp2
        go_ret
        exact ⟨ret_bool (by rw [hf.out, HV.out]; rfl), gb_trans hG hg2⟩
      | true =>
        go_wp2_with fail
        refine (c_l6In _ _ _ _).mono ?_
        rintro e w' ⟨rfl, rfl⟩
        go_wp2
        go_ret
        exact ⟨ret_bool (by rw [hf.out, HV.out]; rfl), gb_trans hG hg2⟩

theorem c_sliceMax (lo : Nat) (A : Option Addr) (n cap : Nat) (cs : List Int) (w : World) (h : Ints w lo A n cap cs) (hn : 0 < n) (hb : ∀ z ∈ cs, 0 ≤ z) :
    Calls Tryz.prog 126 #[.slice A n cap] w fun e w' => e = .returned (.int .i64 (iMax cs)) ∧ w = w' := by
  have hlc := h.le
  have hcm := h.max
  have hxl := Lib.hid h.len
  obtain ⟨b, off, z0, rfl, hz0, hcell0⟩ := h.at_ hn
  rw [Nat.add_zero] at hcell0
  have h0 : Hid (z0 = iMax (cs.take 1)) := Lib.hid (by
    have := hb z0 (List.mem_of_getElem? hz0.out)
    rw [take_succ_of hz0.out, List.take_zero, iMax_snoc]
    show z0 = max 0 z0
    omega)
  clear hz0 hb
  have hn0 : (0 : Int) < (n : Int) := by omega
  have hn1 : ¬ (n : Int) < 1 := by omega
  go_enter Tryz.func126, Tryz.ntmps126
  go_wp2
  go_loop [3, 4] (fun v i => ∃ (k : Nat) (F : Int), 1 ≤ k ∧ k ≤ n ∧ i = .int .i64 k ∧ v = .int .i64 F ∧ Hid (F = iMax (cs.take k))) (fun _ i => n - (intOf i).toNat)
  case atStart => exact ⟨1, z0, Nat.le_refl _, by omega, rfl, rfl, h0⟩
  case round =>
    obtain ⟨k, F, hk1, hk, rfl, rfl, hpre⟩ := hrel
    clear h0 hcell0
    by_cases hlt : k < n
    · obtain ⟨b1, off1, z, he, hz, hcell⟩ := h.at_ hlt
      injection he with he
      injection he with he1 he2
      subst he1 he2
      have hk' : (k : Int) < (n : Int) := by omega
      have hk0 : (0 : Int) ≤ (k : Int) := by omega
      have hst : Hid (iMax (cs.take (k + 1)) = max F z) := Lib.hid (by rw [take_succ_of hz.out, iMax_snoc, hpre.out])
      clear hpre hz
      go_wp2
      go_round
      case rel => exact ⟨k + 1, _, by omega, by omega, by go_num, rfl, Lib.hid (by rw [hst.out]; try (first | rfl | (split <;> omega)))⟩
      case measure => simp [intOf]; omega
    · obtain rfl : k = n := by omega
      have hst : Hid (F = iMax cs) := Lib.hid (by rw [hpre.out, List.take_of_length_le (by rw [hxl.out]; exact Nat.le_refl _)])
      go_wp2
      go_ret
      exact ⟨ret_int hst.out, rfl⟩

theorem iMax_bound {cs : List Int} {M : Int} (hM : 0 ≤ M) (h : ∀ z ∈ cs, 0 ≤ z ∧ z ≤ M) : 0 ≤ iMax cs ∧ iMax cs ≤ M := by
  induction cs using snocInd with
  | nil => exact ⟨Int.le_refl _, hM⟩
  | append_singleton l z ih =>
    have h1 := ih (fun y hy => h y (by simp [hy]))
    have h2 := h z (by simp)
    rw [iMax_snoc]
    omega
theorem iSum_bound {cs : List Int} {M : Int} (h : ∀ z ∈ cs, 0 ≤ z ∧ z ≤ M) : 0 ≤ iSum cs ∧ iSum cs ≤ M * (cs.length : Int) := by
  induction cs using snocInd with
  | nil => simp [iSum]
  | append_singleton l z ih =>
    have h1 := ih (fun y hy => h y (by simp [hy]))
    have h2 := h z (by simp)
    rw [iSum_snoc, List.length_append, List.length_singleton]
    have : M * ((l.length + 1 : Nat) : Int) = M * (l.length : Int) + M := by
      rw [Int.natCast_add, Int.mul_add]
      simp
    omega

theorem c_l12Done (lo lo' : Nat) (A B : Option Addr) (n cap m cap' : Nat) (cs : List Int) (left : List Bool) (w : World) (h : Ints w lo A n cap cs) (h' : Bls w lo' B m cap' left) (hb : ∀ z ∈ cs, 0 ≤ z ∧ z ≤ 1188) (hn : n ≤ 5) :
    Calls Tryz.prog 134 #[.slice A n cap, .slice B m cap'] w fun e w' => e = .returned (.bool (rDone cs left)) ∧ w = w' := by
  have hlc := h.le
  have hcm := h.max
  have hxl := Lib.hid h.len
  have Hb := Lib.hid hb
  clear hb
  go_enter Tryz.func134, Tryz.ntmps134
  go_wp2
  go_loop [5, 6, 7] (fun s v i => ∃ (k : Nat) (S F : Int), k ≤ n ∧ i = .int .i64 k ∧ s = .int .i64 S ∧ v = .int .i64 F ∧ 0 ≤ S ∧ S ≤ 1188 * (k : Int) ∧ 0 ≤ F ∧ F ≤ 1188 ∧ Hid (S = iSum (cs.take k)) ∧ Hid (F = iMax (cs.take k))) (fun _ _ i => n - (intOf i).toNat)
  case atStart => exact ⟨0, 0, 0, Nat.zero_le _, rfl, rfl, rfl, by omega, by omega, by omega, by omega, Lib.hid rfl, Lib.hid rfl⟩
  case round =>
    obtain ⟨k, S, F, hk, rfl, rfl, rfl, hS0, hS1, hF0, hF1, hS, hF⟩ := hrel
    by_cases hlt : k < n
    · obtain ⟨b, off, z, rfl, hz, hcell⟩ := h.at_ hlt
      have hk' : (k : Int) < (n : Int) := by omega
      have hk0 : (0 : Int) ≤ (k : Int) := by omega
      have hzb := Hb.out z (List.mem_of_getElem? hz.out)
      obtain ⟨hz0, hz1⟩ := hzb
      have hstS : Hid (iSum (cs.take (k + 1)) = S + z) := Lib.hid (by rw [take_succ_of hz.out, iSum_snoc, hS.out])
      have hstF : Hid (iMax (cs.take (k + 1)) = max F z) := Lib.hid (by rw [take_succ_of hz.out, iMax_snoc, hF.out])
      have hw : IntKind.i64.wrap (S + z) = S + z := IntWalk.i64_in _ (by omega)
      clear hz hS hF
      go_wp2
      go_round
      case rel => exact ⟨k + 1, S + z, max F z, by omega, by go_num, by first | rfl | go_num, by first | rfl | (congr 1; split <;> omega), by omega, by omega, by omega, by omega, Lib.hid hstS.out.symm, Lib.hid hstF.out.symm⟩
      case measure => simp [intOf]; omega
    · obtain rfl : k = n := by omega
      rw [List.take_of_length_le (by rw [hxl.out]; exact Nat.le_refl _)] at hS hF
      have hfin : Hid (rDone cs left = (decide (S < 2 * F) || decide (left.count false = 1))) := Lib.hid (by unfold rDone; rw [hS.out, hF.out])
      have hw : IntKind.i64.wrap (2 * F) = 2 * F := IntWalk.i64_in _ (by omega)
      obtain ⟨C, hC⟩ : ∃ C, left.count false = C := ⟨_, rfl⟩
      have HC := Lib.hid hC
      clear hS hF hC
      by_cases hd : S < 2 * F
      · have hd1 : decide (S < 2 * F) = true := by simpa using hd
        go_wp2
        go_ret
        exact ⟨ret_bool (by rw [hfin.out, hd1]; rfl), rfl⟩
      · have hd1 : decide (S < 2 * F) = false := by simpa using hd
        have hnl : ¬ (S < 2 * F) := hd
        go_wp2_with fail
        refine (c_l12Many lo' B m cap' left _ h').mono ?_
        rintro e w1 ⟨rfl, rfl⟩
        rw [HC.out]
        go_wp2
        go_ret
        refine ⟨ret_bool ?_, rfl⟩
        rw [hfin.out, hd1, HC.out, Bool.false_or, Bool.eq_iff_iff]
        simp
        omega

theorem c_runoffDone (lo lo' : Nat) (A B : Option Addr) (n cap cap' : Nat) (cs : List Int) (left : List Bool) (w : World) (h : Ints w lo A n cap cs) (h' : Bls w lo' B n cap' left) (hb : ∀ z ∈ cs, 0 ≤ z ∧ z ≤ 1188) (hn : n ≤ 5) (hn1 : 1 ≤ n) :
    Calls Tryz.prog 94 #[.slice A n cap, .slice B n cap'] w fun e w' => e = .returned (.bool (rDone cs left)) ∧ w = w' := by
  have hlc := h.le
  have hcm := h.max
  have hxl := Lib.hid h.len
  have hyl := Lib.hid h'.len
  have hlc' := Sl.le h'
  have hcm' := Sl.max h'
  have Hb := Lib.hid hb
  clear hb
  go_enter Tryz.func94, Tryz.ntmps94
  go_wp2
  go_loop [5, 6, 11] (fun s v i => ∃ (k T : Nat) (S : Int), k ≤ n ∧ i = .int .i64 k ∧ s = .int .i64 S ∧ v = .int .i64 T ∧ 0 ≤ S ∧ S ≤ 1188 * (k : Int) ∧ T ≤ k ∧ Hid (S = iSum (cs.take k)) ∧ Hid (T = (left.take k).count false)) (fun _ _ i => n - (intOf i).toNat)
  case atStart => exact ⟨0, 0, 0, Nat.zero_le _, rfl, rfl, rfl, by omega, by omega, by omega, Lib.hid rfl, Lib.hid rfl⟩
  case round =>
    obtain ⟨k, T, S, hk, rfl, rfl, rfl, hS0, hS1, hTk, hS, hT⟩ := hrel
    by_cases hlt : k < n
    · obtain ⟨b, off, z, rfl, hz, hcell⟩ := h.at_ hlt
      obtain ⟨b', off', l, rfl, hl, hcell'⟩ := h'.at_ hlt
      have hk' : (k : Int) < (n : Int) := by omega
      have hk0 : (0 : Int) ≤ (k : Int) := by omega
      have hzb := Hb.out z (List.mem_of_getElem? hz.out)
      obtain ⟨hz0, hz1⟩ := hzb
      have hstS : Hid (iSum (cs.take (k + 1)) = S + z) := Lib.hid (by rw [take_succ_of hz.out, iSum_snoc, hS.out])
      have hstT : Hid ((left.take (k + 1)).count false = T + (if l = false then 1 else 0)) := Lib.hid (by rw [take_succ_of hl.out, List.count_append, hT.out]; cases l <;> rfl)
      have hw : IntKind.i64.wrap (S + z) = S + z := IntWalk.i64_in _ (by omega)
      clear hz hS hT hl
      cases l with
      | false =>
        go_wp2
        go_round
        case rel => exact ⟨k + 1, T + 1, S + z, by omega, by go_num, by first | rfl | go_num, by go_num, by omega, by omega, by omega, Lib.hid hstS.out.symm, Lib.hid hstT.out.symm⟩
        case measure => simp [intOf]; omega
      | true =>
        go_wp2
        go_round
        case rel => exact ⟨k + 1, T, S + z, by omega, by go_num, by first | rfl | go_num, rfl, by omega, by omega, by omega, Lib.hid hstS.out.symm, Lib.hid hstT.out.symm⟩
        case measure => simp [intOf]; omega
    · obtain rfl : k = n := by omega
      rw [List.take_of_length_le (by rw [hxl.out]; exact Nat.le_refl _)] at hS
      rw [List.take_of_length_le (by rw [hyl.out]; exact Nat.le_refl _)] at hT
      have hfin : Hid (rDone cs left = (decide (S < 2 * iMax cs) || decide (T = 1))) := Lib.hid (by unfold rDone; rw [hS.out, hT.out])
      have hmb := iMax_bound (by omega) Hb.out
      obtain ⟨F, hF⟩ : ∃ F, iMax cs = F := ⟨_, rfl⟩
      have HF := Lib.hid hF
      rw [hF] at hfin hmb
      obtain ⟨hF0, hF1⟩ := hmb
      have hw : IntKind.i64.wrap (2 * F) = 2 * F := IntWalk.i64_in _ (by omega)
      clear hS hT hF
      by_cases ht : T = 1
      · subst ht
        go_wp2
        go_ret
        exact ⟨ret_bool (by rw [hfin.out]; simp), rfl⟩
      · have ht1 : ((T : Int) == 1) = false := by simp; omega
        go_wp2_with fail
        refine (c_sliceMax lo A k cap cs _ h (by omega) (fun z hz => (Hb.out z hz).1)).mono ?_
        rintro e w1 ⟨rfl, rfl⟩
        rw [HF.out]
        go_wp2
        go_ret
        exact ⟨ret_bool (by rw [hfin.out]; simp [ht]), rfl⟩
end Go.Proofs.YtboobimpoddacaaGreatDoor
