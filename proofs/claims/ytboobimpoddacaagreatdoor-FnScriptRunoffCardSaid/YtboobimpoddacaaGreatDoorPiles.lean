/-
  Valid piles: l3Pile and PilesValid of the reference, pileValid and PilesValid of the program.
-/
import Derived.Test.YtboobimpoddacaaGreatDoorPackA
namespace Go.Proofs.YtboobimpoddacaaGreatDoor
open Go.RowKit
set_option linter.unusedVariables false

set_option maxHeartbeats 400000 in
theorem c_l3Pile (s : ByteArray) (m : Int) (w : World) (hs : s.size ≤ 2000000) :
    Calls Tryz.prog 65 #[.agg #[.string s, .int .i64 m]] w fun e w' => e = .returned (.bool (plOK (s, m))) ∧ w.grownBy w' none := by
  obtain ⟨b, hb⟩ : ∃ b, ballotOK (ballotOf s) 5 = b := ⟨_, rfl⟩
  have Hb := Lib.hid hb
  clear hb
  have hBk := Blk.new w 65 #[.string s, .int .i64 m]
  have c0 := hBk.cell 0
  have c1 := hBk.cell 1
  clear hBk
  go_enter Tryz.func65, Tryz.ntmps65
  go_wp2_with fail
  refine (c_spec_BallotParse s _ hs).mono ?_
  rintro e w1 ⟨A, c, rfl, hg, ho⟩
  rw [Hb.out]
  have hG := gb_trans (gb_alloc (gb_refl w none) (.cells #[.string s, .int .i64 m] 65)) hg
  have c1' := gb_cell hg c1 (by simp)
  clear ho
  cases b with
  | false =>
    go_wp2
    go_ret
    exact ⟨ret_bool (by simp [plOK, Hb.out]), hG⟩
  | true =>
    go_wp2_with (go_at_call 63; refine (c_l6In _ _ _ _).mono ?_; rintro e w' ⟨rfl, rfl⟩)
    go_ret
    exact ⟨ret_bool (by simp [plOK, Hb.out]), hG⟩

set_option maxHeartbeats 400000 in
theorem c_pileValid (s : ByteArray) (m : Int) (w : World) (hs : s.size ≤ 2000000) :
    Calls Tryz.prog 51 #[.agg #[.string s, .int .i64 m]] w fun e w' => e = .returned (.bool (plOK (s, m))) ∧ w.grownBy w' none := by
  obtain ⟨b, hb⟩ : ∃ b, ballotOK (ballotOf s) 5 = b := ⟨_, rfl⟩
  have Hb := Lib.hid hb
  clear hb
  have hBk := Blk.new w 65 #[.string s, .int .i64 m]
  have c0 := hBk.cell 0
  have c1 := hBk.cell 1
  clear hBk
  go_enter Tryz.func51, Tryz.ntmps51
  go_wp2_with fail
  refine (c_impl_BallotParse s _ hs).mono ?_
  rintro e w1 ⟨A, c, rfl, hg, ho⟩
  rw [Hb.out]
  have hG := gb_trans (gb_alloc (gb_refl w none) (.cells #[.string s, .int .i64 m] 65)) hg
  have c1' := gb_cell hg c1 (by simp)
  clear ho
  cases b with
  | false =>
    go_wp2
    go_ret
    exact ⟨ret_bool (by simp [plOK, Hb.out]), hG⟩
  | true =>
    rcases (by omega : m < 1 ∨ (1 ≤ m ∧ m ≤ 99) ∨ 99 < m) with h1 | ⟨h1, h2⟩ | h1
    all_goals
      go_wp2
      go_ret
      exact ⟨ret_bool (by simp [plOK, Hb.out, inB]; omega), hG⟩

theorem stepOK_zero {ps : List Pl} (p : Pl) : stepOK ps 0 p = true := rfl
theorem stepOK_at {ps : List Pl} {k : Nat} {p q : Pl} (h : ps[k]? = some q) : stepOK ps (k + 1) p = sLt q.1 p.1 := by
  simp [stepOK, h]

attribute [local go_sem] flowAct flowOp_def flowUpon
set_option maxHeartbeats 2000000 in
theorem c_spec_PilesValid (lo : Nat) (A : Option Addr) (n cap : Nat) (ps : List Pl) (w : World) (h : Piles w lo A n cap ps) (hs : ∀ p ∈ ps, p.1.size ≤ 2000000) :
    Calls Tryz.prog 64 #[.slice A n cap] w fun e w' => e = .returned (.bool (pilesOK ps)) ∧ w.grownBy w' none := by
  have hlc := h.1
  have hcm := Sl.max h
  have hxl := Lib.hid h.len
  have Hs := Lib.hid hs
  clear hs
  go_enter Tryz.func64, Tryz.ntmps64
  go_wp2
  go_loopw [3] (fun i wr => ∃ k : Nat, k ≤ n ∧ i = .int .i64 k ∧ w.grownBy wr none ∧ Hid (pPre ps k = true)) (fun i _ => n - (intOf i).toNat)
  case atStart => exact ⟨0, Nat.zero_le _, rfl, gb_refl _ _, Lib.hid rfl⟩
  case round =>
    obtain ⟨k, hk, rfl, hG, hpre⟩ := hrel
    by_cases hlt : k < n
    · obtain ⟨b, off, ⟨s, m⟩, rfl, _, _, hp, m0, m1⟩ := Piles.at_ (Piles.keep0 h hG) hlt
      have hz : s.size ≤ 2000000 := Hs.out _ (List.mem_of_getElem? hp.out)
      have hk' : (k : Int) < (n : Int) := by omega
      have hk0 : (0 : Int) ≤ (k : Int) := by omega
      obtain ⟨B, hB⟩ : ∃ B, plOK (s, m) = B := ⟨_, rfl⟩
      have HB := Lib.hid hB
      clear hB
      cases B with
      | false =>
        go_wp2_with fail
        refine wp_known wr [.slice (some ⟨b, off, none⟩) n cap, .int .i64 k, .pointer (some ⟨b, off + k * 2, none⟩), .agg #[.string s, .int .i64 m], .bool false, .bool true, .bool true, undef, undef, undef, undef, undef, undef, undef, undef, undef, undef, undef, undef, undef, undef, undef, undef, .bool true] (gb_refl _ _) (by kernel_rfl) (by kernel_rfl) ?_ ?_
        · refine ⟨?_, ?_, ?_, ?_, ?_, ?_, ?_, ?_, ?_, ?_, ?_, ?_, ?_, ?_, ?_, ?_, ?_, ?_, ?_, ?_, ?_, ?_, ?_, ?_, trivial⟩
          all_goals
            intro n u x hn hC hp
            simp [flowPreds, Region.binds, fKnown] at hp
            have m0' := gb_cell hC m0 (by simp)
            have m1' := gb_cell hC m1 (by simp)
            go_simp
          all_goals try exact ⟨gb_refl _ _, rfl⟩
          · refine (c_l3Pile s m _ hz).mono ?_
            rintro e y ⟨rfl, hg⟩
            exact ⟨_, rfl, hg, by rw [HB.out]; rfl⟩
        · intro u x hC hp'
          have e1 : u 23 = .bool true := hp' 23 (by decide)
          go_simp
          go_wp2
          go_ret
          exact ⟨ret_bool (piles_bad hp.out (by rw [HB.out]; rfl)).symm, gb_trans hG hC⟩
      | true =>
        by_cases hk1 : k = 0
        · subst hk1
          go_wp2_with fail
          refine wp_known wr [.slice (some ⟨b, off, none⟩) n cap, .int .i64 0, .pointer (some ⟨b, off, none⟩), .agg #[.string s, .int .i64 m], .bool true, .bool false, .bool false, .int .i64 0, .bool false, .bool false, undef, undef, undef, undef, undef, undef, undef, undef, undef, undef, undef, undef, .bool false, .bool false] (gb_refl _ _) (by kernel_rfl) (by kernel_rfl) ?_ ?_
          · refine ⟨?_, ?_, ?_, ?_, ?_, ?_, ?_, ?_, ?_, ?_, ?_, ?_, ?_, ?_, ?_, ?_, ?_, ?_, ?_, ?_, ?_, ?_, ?_, ?_, trivial⟩
            all_goals
              intro n u x hn hC hp
              simp [flowPreds, Region.binds, fKnown] at hp
              have m0' := gb_cell hC m0 (by simp)
              have m1' := gb_cell hC m1 (by simp)
              simp only [Nat.zero_mul, Nat.add_zero] at m0' m1'
              go_simp
            all_goals try exact ⟨gb_refl _ _, rfl⟩
            · refine (c_l3Pile s m _ hz).mono ?_
              rintro e y ⟨rfl, hg⟩
              exact ⟨_, rfl, hg, by rw [HB.out]; rfl⟩
          · intro u x hC hp'
            have e1 : u 23 = .bool false := hp' 23 (by decide)
            go_simp
            go_wp2
            go_roundw
            case rel => exact ⟨1, by omega, by go_num, gb_trans hG hC, Lib.hid (by rw [pPre_step hp.out, hpre.out, HB.out, stepOK_zero]; rfl)⟩
            case measure => simp [intOf]; omega
        · obtain ⟨j, rfl⟩ : ∃ j, k = j + 1 := ⟨k - 1, by omega⟩
          obtain ⟨b', off', ⟨t, m'⟩, he, _, _, hq, q0, _⟩ := Piles.at_ (k := j) (Piles.keep0 h hG) (by omega)
          injection he with he
          injection he with he1 he2
          subst he1 he2
          have hj' : (j : Int) < (n : Int) := by omega
          have hj0 : (0 : Int) ≤ (j : Int) := by omega
          have hjp : (0 : Int) < ((j + 1 : Nat) : Int) := by omega
          have hsub : IntKind.i64.wrap (((j + 1 : Nat) : Int) - 1) = (j : Int) := by rw [IntWalk.i64_in _ (by omega)]; omega
          obtain ⟨L, hL⟩ : ∃ L, Op.bytesLess t.toList s.toList = L := ⟨_, rfl⟩
          have HL : Hid (stepOK ps (j + 1) (s, m) = L) := Lib.hid (by rw [stepOK_at hq.out]; exact hL)
          obtain ⟨K, hK⟩ : ∃ K : Nat, j + 1 = K := ⟨_, rfl⟩
          have HK := Lib.hid hK
          have hK1 : K ≤ n := by omega
          have hkn : 0 < K := by omega
          rw [hK] at m0 m1 hk' hk0 hjp hsub hk
          rw [hK]
          clear hK hlt hk1
          go_wp2_with fail
          refine wp_known wr [.slice (some ⟨b, off, none⟩) n cap, .int .i64 K, .pointer (some ⟨b, off + K * 2, none⟩), .agg #[.string s, .int .i64 m], .bool true, .bool false, .bool false, .int .i64 K, .bool true, .bool true, .slice (some ⟨b, off, none⟩) n cap, .int .i64 K, .int .i64 j, .pointer (some ⟨b, off + j * 2, none⟩), .pointer (some ⟨b, off + j * 2, none⟩), .string t, .slice (some ⟨b, off, none⟩) n cap, .int .i64 K, .pointer (some ⟨b, off + K * 2, none⟩), .pointer (some ⟨b, off + K * 2, none⟩), .string s, .bool !L, .bool !L, .bool !L] (gb_refl _ _) (by kernel_rfl) (by kernel_rfl) ?_ ?_
          · refine ⟨?_, ?_, ?_, ?_, ?_, ?_, ?_, ?_, ?_, ?_, ?_, ?_, ?_, ?_, ?_, ?_, ?_, ?_, ?_, ?_, ?_, ?_, ?_, ?_, trivial⟩
            all_goals
              intro n u x hn hC hp
              simp [flowPreds, Region.binds, fKnown] at hp
              have m0' := gb_cell hC m0 (by simp)
              have m1' := gb_cell hC m1 (by simp)
              have q0' := gb_cell hC q0 (by simp)
              go_simp
            all_goals try exact ⟨gb_refl _ _, rfl⟩
            · refine (c_l3Pile s m _ hz).mono ?_
              rintro e y ⟨rfl, hg⟩
              exact ⟨_, rfl, hg, by rw [HB.out]; rfl⟩
          · intro u x hC hp'
            have e1 : u 23 = .bool !L := hp' 23 (by decide)
            cases L with
            | true =>
              have e1' : u 23 = .bool false := e1
              clear hL e1
              go_simp
              go_wp2
              go_roundw
              case rel => exact ⟨K + 1, by omega, by go_num, gb_trans hG hC, Lib.hid (by rw [← HK.out, pPre_step hp.out, hpre.out, HB.out, HL.out]; rfl)⟩
              case measure => simp [intOf]; omega
            | false =>
              have e1' : u 23 = .bool true := e1
              clear hL e1
              go_simp
              go_wp2
              go_ret
              exact ⟨ret_bool (piles_bad hp.out (by rw [HB.out, HL.out]; rfl)).symm, gb_trans hG hC⟩
    · obtain rfl : k = n := by omega
      have Hfin : Hid (pilesOK ps = decide (k ≤ 12)) := Lib.hid (by unfold pilesOK; rw [hxl.out, hpre.out]; rfl)
      go_wp2
      go_ret
      exact ⟨ret_bool (by rw [Hfin.out]; simp; omega), hG⟩

theorem sLe_not (s t : ByteArray) : (Op.bytesLess s.toList t.toList || s.toList == t.toList) = !Op.bytesLess t.toList s.toList := by
  have e1 : Op.bytesLess s.toList t.toList = sLt s t := rfl
  have e2 : Op.bytesLess t.toList s.toList = sLt t s := rfl
  rw [e1, e2, str_eq]
  by_cases h : s = t
  · subst h; rw [sLt_irrefl]; simp
  · rw [decide_eq_false h, Bool.or_false]
    cases h1 : sLt s t with
    | true => rw [sLt_asymm h1]; rfl
    | false => rw [sLt_tri h1 h]; rfl

set_option maxHeartbeats 2000000 in
theorem c_impl_PilesValid (lo : Nat) (A : Option Addr) (n cap : Nat) (ps : List Pl) (w : World) (h : Piles w lo A n cap ps) (hs : ∀ p ∈ ps, p.1.size ≤ 2000000) :
    Calls Tryz.prog 40 #[.slice A n cap] w fun e w' => e = .returned (.bool (pilesOK ps)) ∧ w.grownBy w' none := by
  have hlc := h.1
  have hcm := Sl.max h
  have hxl := Lib.hid h.len
  have Hs := Lib.hid hs
  clear hs
  go_enter Tryz.func40, Tryz.ntmps40
  go_wp2
  go_loopw [7] (fun i wr => ∃ k : Nat, k ≤ n ∧ i = .int .i64 k ∧ w.grownBy wr none ∧ Hid (pPre ps k = true)) (fun i _ => n - (intOf i).toNat)
  case atStart => exact ⟨0, Nat.zero_le _, rfl, gb_refl _ _, Lib.hid rfl⟩
  case round =>
    obtain ⟨k, hk, rfl, hG, hpre⟩ := hrel
    by_cases hlt : k < n
    · obtain ⟨b, off, ⟨s, m⟩, rfl, _, _, hp, m0, m1⟩ := Piles.at_ (Piles.keep0 h hG) hlt
      have hz : s.size ≤ 2000000 := Hs.out _ (List.mem_of_getElem? hp.out)
      have hk' : (k : Int) < (n : Int) := by omega
      have hk0 : (0 : Int) ≤ (k : Int) := by omega
      obtain ⟨B, hB⟩ : ∃ B, plOK (s, m) = B := ⟨_, rfl⟩
      have HB := Lib.hid hB
      clear hB
      have hG1 := gb_alloc (gb_refl wr none) (.cells #[.string s, .int .i64 m] 65)
      have hBk := Blk.new wr 65 #[.string s, .int .i64 m]
      have c0 := hBk.cell 0
      have c1 := hBk.cell 1
      clear hBk
      cases B with
      | false =>
        go_wp2_with fail
        refine wp_known (wr.alloc (.cells #[.string s, .int .i64 m] 65)) [.agg #[.string s, .int .i64 m], .bool false, .bool true, .bool true, undef, undef, undef, undef, undef, undef, undef, undef, undef, undef, undef, undef, undef, .bool true] (gb_refl _ _) (by kernel_rfl) (by kernel_rfl) ?_ ?_
        · refine ⟨?_, ?_, ?_, ?_, ?_, ?_, ?_, ?_, ?_, ?_, ?_, ?_, ?_, ?_, ?_, ?_, ?_, ?_, trivial⟩
          all_goals
            intro n u x hn hC hp
            simp [flowPreds, Region.binds, fKnown] at hp
            have c0' := gb_cell hC c0 (by simp)
            have c1' := gb_cell hC c1 (by simp)
            go_simp
          all_goals try exact ⟨gb_refl _ _, rfl⟩
          · refine (c_pileValid s m _ hz).mono ?_
            rintro e y ⟨rfl, hg⟩
            exact ⟨_, rfl, hg, by rw [HB.out]; rfl⟩
        · intro u x hC hp'
          have e1 : u 17 = .bool true := hp' 17 (by decide)
          go_simp
          go_wp2
          go_ret
          exact ⟨ret_bool (piles_bad hp.out (by rw [HB.out]; rfl)).symm, gb_trans hG (gb_trans hG1 hC)⟩
      | true =>
        by_cases hk1 : k = 0
        · subst hk1
          simp only [Nat.zero_mul, Nat.add_zero] at m0 m1
          go_wp2_with fail
          refine wp_known (wr.alloc (.cells #[.string s, .int .i64 m] 65)) [.agg #[.string s, .int .i64 m], .bool true, .bool false, .bool false, .int .i64 0, .bool false, .bool false, undef, undef, undef, undef, undef, undef, undef, undef, undef, .bool false, .bool false] (gb_refl _ _) (by kernel_rfl) (by kernel_rfl) ?_ ?_
          · refine ⟨?_, ?_, ?_, ?_, ?_, ?_, ?_, ?_, ?_, ?_, ?_, ?_, ?_, ?_, ?_, ?_, ?_, ?_, trivial⟩
            all_goals
              intro n u x hn hC hp
              simp [flowPreds, Region.binds, fKnown] at hp
              have c0' := gb_cell hC c0 (by simp)
              have c1' := gb_cell hC c1 (by simp)
              go_simp
            all_goals try exact ⟨gb_refl _ _, rfl⟩
            · refine (c_pileValid s m _ hz).mono ?_
              rintro e y ⟨rfl, hg⟩
              exact ⟨_, rfl, hg, by rw [HB.out]; rfl⟩
          · intro u x hC hp'
            have e1 : u 17 = .bool false := hp' 17 (by decide)
            go_simp
            go_wp2
            go_roundw
            case rel => exact ⟨1, by omega, by go_num, gb_trans hG (gb_trans hG1 hC), Lib.hid (by rw [pPre_step hp.out, hpre.out, HB.out, stepOK_zero]; rfl)⟩
            case measure => simp [intOf]; omega
        · obtain ⟨j, rfl⟩ : ∃ j, k = j + 1 := ⟨k - 1, by omega⟩
          obtain ⟨b', off', ⟨t, m'⟩, he, _, _, hq, q0, _⟩ := Piles.at_ (k := j) (Piles.keep0 h hG) (by omega)
          injection he with he
          injection he with he1 he2
          subst he1 he2
          have hj' : (j : Int) < (n : Int) := by omega
          have hj0 : (0 : Int) ≤ (j : Int) := by omega
          have hjp : (0 : Int) < ((j + 1 : Nat) : Int) := by omega
          have hsub : IntKind.i64.wrap (((j + 1 : Nat) : Int) - 1) = (j : Int) := by rw [IntWalk.i64_in _ (by omega)]; omega
          obtain ⟨L, hL⟩ : ∃ L, (Op.bytesLess s.toList t.toList || s.toList == t.toList) = L := ⟨_, rfl⟩
          have HL : Hid (stepOK ps (j + 1) (s, m) = !L) := Lib.hid (by rw [stepOK_at hq.out, ← hL, sLe_not, Bool.not_not]; rfl)
          obtain ⟨K, hK⟩ : ∃ K : Nat, j + 1 = K := ⟨_, rfl⟩
          have HK := Lib.hid hK
          have hK1 : K ≤ n := by omega
          have hkn : 0 < K := by omega
          rw [hK] at m0 m1 hk' hk0 hjp hsub hk
          rw [hK]
          clear hK hlt hk1
          have hjg : ∀ x : World, (wr.alloc (.cells #[.string s, .int .i64 m] 65)).grownBy x none → x.cell? ⟨b, off + j * 2, none⟩ = some (.string t) := fun x hx => gb_cell (gb_trans hG1 hx) q0 (by simp)
          have Hjg := Lib.hid hjg
          clear hjg
          go_wp2_with fail
          refine wp_known (wr.alloc (.cells #[.string s, .int .i64 m] 65)) [.agg #[.string s, .int .i64 m], .bool true, .bool false, .bool false, .int .i64 K, .bool true, .bool true, .pointer (some ⟨wr.heap.size, 0, none⟩), .string s, .slice (some ⟨b, off, none⟩) n cap, .int .i64 K, .int .i64 j, .pointer (some ⟨b, off + j * 2, none⟩), .pointer (some ⟨b, off + j * 2, none⟩), .string t, .bool L, .bool L, .bool L] (gb_refl _ _) (by kernel_rfl) (by kernel_rfl) ?_ ?_
          · refine ⟨?_, ?_, ?_, ?_, ?_, ?_, ?_, ?_, ?_, ?_, ?_, ?_, ?_, ?_, ?_, ?_, ?_, ?_, trivial⟩
            all_goals
              intro n u x hn hC hp
              simp [flowPreds, Region.binds, fKnown] at hp
              have c0' := gb_cell hC c0 (by simp)
              have c1' := gb_cell hC c1 (by simp)
              have q0' := Hjg.out x hC
              go_simp
            all_goals try exact ⟨gb_refl _ _, rfl⟩
            · refine (c_pileValid s m _ hz).mono ?_
              rintro e y ⟨rfl, hg⟩
              exact ⟨_, rfl, hg, by rw [HB.out]; rfl⟩
          · intro u x hC hp'
            have e1 : u 17 = .bool L := hp' 17 (by decide)
            cases L with
            | false =>
              clear hL
              go_simp
              go_wp2
              go_roundw
              case rel => exact ⟨K + 1, by omega, by go_num, gb_trans hG (gb_trans hG1 hC), Lib.hid (by rw [← HK.out, pPre_step hp.out, hpre.out, HB.out, HL.out]; rfl)⟩
              case measure => simp [intOf]; omega
            | true =>
              clear hL
              go_simp
              go_wp2
              go_ret
              exact ⟨ret_bool (piles_bad hp.out (by rw [HB.out, HL.out]; rfl)).symm, gb_trans hG (gb_trans hG1 hC)⟩
    · obtain rfl : k = n := by omega
      have Hfin : Hid (pilesOK ps = decide (k ≤ 12)) := Lib.hid (by unfold pilesOK; rw [hxl.out, hpre.out]; rfl)
      go_wp2
      go_ret
      exact ⟨ret_bool (by rw [Hfin.out]; simp; omega), hG⟩
end Go.Proofs.YtboobimpoddacaaGreatDoor
