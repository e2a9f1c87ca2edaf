/-
  Valid returns: BatchesValid of the reference.
-/
import Derived.Test.YtdhkhlemdlibfaaBatchDef
namespace Go.Proofs.Ytdhkhlemdlibfaa
open Go.RowKit
set_option linter.unusedVariables false

attribute [local go_sem] flowAct flowOp_def flowUpon
set_option maxRecDepth 100000 in
set_option maxHeartbeats 8000000 in
theorem c_spec_BatchesValid (lo : Nat) (A : Option Addr) (n cap : Nat) (bs : List Bt) (w : World) (h : Bats w lo A n cap bs) (hs : ∀ b ∈ bs, ∀ p ∈ b.2.2, p.1.size ≤ 2000000) :
    Calls Try.prog 29 #[.slice A n cap] w fun e w' => e = .returned (.bool (batchesOK bs)) ∧ w.grownBy w' none := by
  have hlc := h.le
  have hcm := h.max
  have hxl := Lib.hid h.len
  have Hs := Lib.hid hs
  clear hs
  go_enter Try.func29, Try.ntmps29
  go_wp2
  go_loopw [3] (fun i wr => ∃ k : Nat, k ≤ n ∧ i = .int .i64 k ∧ w.grownBy wr none ∧ Hid (bPre bs k = true)) (fun i _ => n - (intOf i).toNat)
  case atStart => exact ⟨0, Nat.zero_le _, rfl, gb_refl _ _, Lib.hid rfl⟩
  case round =>
    obtain ⟨k, hk, rfl, hG, hpre⟩ := hrel
    by_cases hlt : k < n
    · obtain ⟨b, off, id, over, ps, A', c', rfl, hp, hps, m0, m1, m2⟩ := Bats.at_ (Recs.keep0 h hG) hlt
      have hk' : (k : Int) < (n : Int) := by omega
      have hk0 : (0 : Int) ≤ (k : Int) := by omega
      obtain ⟨N, hN⟩ : ∃ N, ps.length = N := ⟨_, rfl⟩
      have hG1 := gb_alloc (gb_refl wr none) (.cells #[.int .i64 id, .int .i64 over, .slice A' N c'] 34)
      have hcall := fun (x : World) (hx : (wr.alloc (.cells #[.int .i64 id, .int .i64 over, .slice A' N c'] 34)).grownBy x none) => c_spec_PilesValid lo A' ps.length c' ps x (hps.keep0 (gb_trans hG1 hx)) (Hs.out _ (List.mem_of_getElem? hp.out))
      have Hc := Lib.hid hcall
      clear hcall hps
      rw [hN] at m2 Hc
      clear hN
      obtain ⟨B, hB⟩ : ∃ B, pilesOK ps = B := ⟨_, rfl⟩
      have HB := Lib.hid hB
      clear hB
      have hBk := Blk.new wr 34 #[.int .i64 id, .int .i64 over, .slice A' N c']
      have c0 := hBk.cell 0
      have c1 := hBk.cell 1
      have c2 := hBk.cell 2
      clear hBk
      obtain ⟨XH1, H10⟩ : ∃ X, inB id 1 99 = X := ⟨_, rfl⟩
      have H1 := Lib.hid H10
      clear H10
      cases XH1
      · go_wp2_with fail
        refine wp_known (wr.alloc (.cells #[.int .i64 id, .int .i64 over, .slice A' N c'] 34)) [.pointer (some ⟨wr.heap.size, 0, none⟩), .int .i64 id, .bool false, .bool true, .bool true, undef, undef, undef, undef, .bool true, .bool true, undef, undef, undef, undef, undef, .bool true, .bool true, undef, undef, undef, undef, .bool true, .bool true, undef, undef, undef, undef, undef, undef, undef, undef, undef, undef, undef, undef, undef, .bool true] (gb_refl _ _) (by kernel_rfl) (by kernel_rfl) ?_ ?_
        · refine ⟨?_, ?_, ?_, ?_, ?_, ?_, ?_, ?_, ?_, ?_, ?_, ?_, ?_, ?_, ?_, ?_, ?_, ?_, ?_, ?_, ?_, ?_, ?_, ?_, ?_, ?_, ?_, ?_, ?_, ?_, ?_, ?_, ?_, ?_, ?_, ?_, ?_, ?_, trivial⟩
          all_goals
            intro n u x hn hC hp
            simp [flowPreds, Region.binds, fKnown] at hp
            have c0' := gb_cell hC c0 (by simp)
            have c1' := gb_cell hC c1 (by simp)
            have c2' := gb_cell hC c2 (by simp)
            go_simp
          all_goals try exact ⟨gb_refl _ _, rfl⟩
          · refine (c_l6In _ _ _ _).mono ?_
            rintro e y ⟨rfl, rfl⟩
            exact ⟨_, rfl, gb_refl _ _, by rw [H1.out]; rfl⟩
        · intro u x hC hp'
          have e1 : u 37 = .bool true := hp' 37 (by decide)
          go_simp
          go_wp2
          go_ret
          exact ⟨ret_bool (batches_bad hp.out (by simp [btOK, H1.out])).symm, gb_trans hG (gb_trans hG1 hC)⟩
      · skip
        obtain ⟨XH2, H20⟩ : ∃ X, inB over 0 99 = X := ⟨_, rfl⟩
        have H2 := Lib.hid H20
        clear H20
        cases XH2
        · go_wp2_with fail
          refine wp_known (wr.alloc (.cells #[.int .i64 id, .int .i64 over, .slice A' N c'] 34)) [.pointer (some ⟨wr.heap.size, 0, none⟩), .int .i64 id, .bool true, .bool false, .bool false, .pointer (some ⟨wr.heap.size, 1, none⟩), .int .i64 over, .bool false, .bool true, .bool true, .bool true, undef, undef, undef, undef, undef, .bool true, .bool true, undef, undef, undef, undef, .bool true, .bool true, undef, undef, undef, undef, undef, undef, undef, undef, undef, undef, undef, undef, undef, .bool true] (gb_refl _ _) (by kernel_rfl) (by kernel_rfl) ?_ ?_
          · refine ⟨?_, ?_, ?_, ?_, ?_, ?_, ?_, ?_, ?_, ?_, ?_, ?_, ?_, ?_, ?_, ?_, ?_, ?_, ?_, ?_, ?_, ?_, ?_, ?_, ?_, ?_, ?_, ?_, ?_, ?_, ?_, ?_, ?_, ?_, ?_, ?_, ?_, ?_, trivial⟩
            all_goals
              intro n u x hn hC hp
              simp [flowPreds, Region.binds, fKnown] at hp
              have c0' := gb_cell hC c0 (by simp)
              have c1' := gb_cell hC c1 (by simp)
              have c2' := gb_cell hC c2 (by simp)
              go_simp
            all_goals try exact ⟨gb_refl _ _, rfl⟩
            · refine (c_l6In _ _ _ _).mono ?_
              rintro e y ⟨rfl, rfl⟩
              exact ⟨_, rfl, gb_refl _ _, by rw [H1.out]; rfl⟩
            · refine (c_l6In _ _ _ _).mono ?_
              rintro e y ⟨rfl, rfl⟩
              exact ⟨_, rfl, gb_refl _ _, by rw [H2.out]; rfl⟩
          · intro u x hC hp'
            have e1 : u 37 = .bool true := hp' 37 (by decide)
            go_simp
            go_wp2
            go_ret
            exact ⟨ret_bool (batches_bad hp.out (by simp [btOK, H2.out])).symm, gb_trans hG (gb_trans hG1 hC)⟩
        · skip
          by_cases hEq : over = id
          · have hE : Hid (over = id) := Lib.hid hEq
            have hEb : (over == id) = true := by simpa using hEq
            clear hEq
            go_wp2_with fail
            refine wp_known (wr.alloc (.cells #[.int .i64 id, .int .i64 over, .slice A' N c'] 34)) [.pointer (some ⟨wr.heap.size, 0, none⟩), .int .i64 id, .bool true, .bool false, .bool false, .pointer (some ⟨wr.heap.size, 1, none⟩), .int .i64 over, .bool true, .bool false, .bool false, .bool false, .pointer (some ⟨wr.heap.size, 1, none⟩), .int .i64 over, .pointer (some ⟨wr.heap.size, 0, none⟩), .int .i64 id, .bool true, .bool true, .bool true, undef, undef, undef, undef, .bool true, .bool true, undef, undef, undef, undef, undef, undef, undef, undef, undef, undef, undef, undef, undef, .bool true] (gb_refl _ _) (by kernel_rfl) (by kernel_rfl) ?_ ?_
            · refine ⟨?_, ?_, ?_, ?_, ?_, ?_, ?_, ?_, ?_, ?_, ?_, ?_, ?_, ?_, ?_, ?_, ?_, ?_, ?_, ?_, ?_, ?_, ?_, ?_, ?_, ?_, ?_, ?_, ?_, ?_, ?_, ?_, ?_, ?_, ?_, ?_, ?_, ?_, trivial⟩
              all_goals
                intro n u x hn hC hp
                simp [flowPreds, Region.binds, fKnown] at hp
                have c0' := gb_cell hC c0 (by simp)
                have c1' := gb_cell hC c1 (by simp)
                have c2' := gb_cell hC c2 (by simp)
                go_simp
              all_goals try exact ⟨gb_refl _ _, rfl⟩
              · refine (c_l6In _ _ _ _).mono ?_
                rintro e y ⟨rfl, rfl⟩
                exact ⟨_, rfl, gb_refl _ _, by rw [H1.out]; rfl⟩
              · refine (c_l6In _ _ _ _).mono ?_
                rintro e y ⟨rfl, rfl⟩
                exact ⟨_, rfl, gb_refl _ _, by rw [H2.out]; rfl⟩
            · intro u x hC hp'
              have e1 : u 37 = .bool true := hp' 37 (by decide)
              go_simp
              go_wp2
              go_ret
              exact ⟨ret_bool (batches_bad hp.out (by rw [hE.out]; simp [btOK])).symm, gb_trans hG (gb_trans hG1 hC)⟩
          have hEb : (over == id) = false := by simpa using hEq
          have hE := Lib.hid hEb
          clear hEq
          cases B
          · go_wp2_with fail
            refine wp_known (wr.alloc (.cells #[.int .i64 id, .int .i64 over, .slice A' N c'] 34)) [.pointer (some ⟨wr.heap.size, 0, none⟩), .int .i64 id, .bool true, .bool false, .bool false, .pointer (some ⟨wr.heap.size, 1, none⟩), .int .i64 over, .bool true, .bool false, .bool false, .bool false, .pointer (some ⟨wr.heap.size, 1, none⟩), .int .i64 over, .pointer (some ⟨wr.heap.size, 0, none⟩), .int .i64 id, .bool false, .bool false, .bool false, .pointer (some ⟨wr.heap.size, 2, none⟩), .slice A' N c', .bool false, .bool true, .bool true, .bool true, undef, undef, undef, undef, undef, undef, undef, undef, undef, undef, undef, undef, undef, .bool true] (gb_refl _ _) (by kernel_rfl) (by kernel_rfl) ?_ ?_
            · refine ⟨?_, ?_, ?_, ?_, ?_, ?_, ?_, ?_, ?_, ?_, ?_, ?_, ?_, ?_, ?_, ?_, ?_, ?_, ?_, ?_, ?_, ?_, ?_, ?_, ?_, ?_, ?_, ?_, ?_, ?_, ?_, ?_, ?_, ?_, ?_, ?_, ?_, ?_, trivial⟩
              all_goals
                intro n u x hn hC hp
                simp [flowPreds, Region.binds, fKnown] at hp
                have c0' := gb_cell hC c0 (by simp)
                have c1' := gb_cell hC c1 (by simp)
                have c2' := gb_cell hC c2 (by simp)
                go_simp
              all_goals try exact ⟨gb_refl _ _, rfl⟩
              · refine (c_l6In _ _ _ _).mono ?_
                rintro e y ⟨rfl, rfl⟩
                exact ⟨_, rfl, gb_refl _ _, by rw [H1.out]; rfl⟩
              · refine (c_l6In _ _ _ _).mono ?_
                rintro e y ⟨rfl, rfl⟩
                exact ⟨_, rfl, gb_refl _ _, by rw [H2.out]; rfl⟩
              · refine (Hc.out _ hC).mono ?_
                rintro e y ⟨rfl, hg⟩
                exact ⟨_, rfl, hg, by rw [HB.out]; rfl⟩
            · intro u x hC hp'
              have e1 : u 37 = .bool true := hp' 37 (by decide)
              go_simp
              go_wp2
              go_ret
              exact ⟨ret_bool (batches_bad hp.out (by simp [btOK, HB.out])).symm, gb_trans hG (gb_trans hG1 hC)⟩
          have hok : Hid (btOK (id, over, ps) = true) := Lib.hid (by simp [btOK, H1.out, H2.out, HB.out, hE.out])
          by_cases hk1 : k = 0
          · subst hk1
            simp only [Nat.zero_mul, Nat.add_zero] at m0 m1 m2
            go_wp2_with fail
            refine wp_known (wr.alloc (.cells #[.int .i64 id, .int .i64 over, .slice A' N c'] 34)) [.pointer (some ⟨wr.heap.size, 0, none⟩), .int .i64 id, .bool true, .bool false, .bool false, .pointer (some ⟨wr.heap.size, 1, none⟩), .int .i64 over, .bool true, .bool false, .bool false, .bool false, .pointer (some ⟨wr.heap.size, 1, none⟩), .int .i64 over, .pointer (some ⟨wr.heap.size, 0, none⟩), .int .i64 id, .bool false, .bool false, .bool false, .pointer (some ⟨wr.heap.size, 2, none⟩), .slice A' N c', .bool true, .bool false, .bool false, .bool false, .int .i64 0, .bool false, .bool false, undef, undef, undef, undef, undef, undef, undef, undef, undef, .bool false, .bool false] (gb_refl _ _) (by kernel_rfl) (by kernel_rfl) ?_ ?_
            · refine ⟨?_, ?_, ?_, ?_, ?_, ?_, ?_, ?_, ?_, ?_, ?_, ?_, ?_, ?_, ?_, ?_, ?_, ?_, ?_, ?_, ?_, ?_, ?_, ?_, ?_, ?_, ?_, ?_, ?_, ?_, ?_, ?_, ?_, ?_, ?_, ?_, ?_, ?_, trivial⟩
              all_goals
                intro n u x hn hC hp
                simp [flowPreds, Region.binds, fKnown] at hp
                have c0' := gb_cell hC c0 (by simp)
                have c1' := gb_cell hC c1 (by simp)
                have c2' := gb_cell hC c2 (by simp)
                go_simp
              all_goals try exact ⟨gb_refl _ _, rfl⟩
              · refine (c_l6In _ _ _ _).mono ?_
                rintro e y ⟨rfl, rfl⟩
                exact ⟨_, rfl, gb_refl _ _, by rw [H1.out]; rfl⟩
              · refine (c_l6In _ _ _ _).mono ?_
                rintro e y ⟨rfl, rfl⟩
                exact ⟨_, rfl, gb_refl _ _, by rw [H2.out]; rfl⟩
              · refine (Hc.out _ hC).mono ?_
                rintro e y ⟨rfl, hg⟩
                exact ⟨_, rfl, hg, by rw [HB.out]; rfl⟩
            · intro u x hC hp'
              have e1 : u 37 = .bool false := hp' 37 (by decide)
              go_simp
              go_wp2
              go_roundw
              case rel => exact ⟨1, by omega, by go_num, gb_trans hG (gb_trans hG1 hC), Lib.hid (by rw [bPre_step hp.out, hpre.out, hok.out, bStep_zero]; rfl)⟩
              case measure => simp [intOf]; omega
          · obtain ⟨j, rfl⟩ : ∃ j, k = j + 1 := ⟨k - 1, by omega⟩
            obtain ⟨b', off', idj, ovj, pj, _, _, he, hq, _, q0, _, _⟩ := Bats.at_ (k := j) (Recs.keep0 h hG) (by omega)
            injection he with he
            injection he with he1 he2
            subst he1 he2
            have hj' : (j : Int) < (n : Int) := by omega
            have hj0 : (0 : Int) ≤ (j : Int) := by omega
            have hsub : IntKind.i64.wrap (((j + 1 : Nat) : Int) - 1) = (j : Int) := by rw [IntWalk.i64_in _ (by omega)]; omega
            have HL : Hid (bStep bs (j + 1) (id, over, ps) = decide (idj < id)) := Lib.hid (by rw [bStep_at hq.out])
            obtain ⟨K, hK⟩ : ∃ K : Nat, j + 1 = K := ⟨_, rfl⟩
            have HK := Lib.hid hK
            have hK1 : K ≤ n := by omega
            have hkn : 0 < K := by omega
            rw [hK] at m0 m1 m2 hk' hk0 hsub hk
            rw [hK]
            clear hK hlt hk1
            have hjg : ∀ x : World, (wr.alloc (.cells #[.int .i64 id, .int .i64 over, .slice A' N c'] 34)).grownBy x none → x.cell? ⟨b, off + j * 3, none⟩ = some (.int .i64 idj) := fun x hx => gb_cell (gb_trans hG1 hx) q0 (by simp)
            have Hjg := Lib.hid hjg
            clear hjg
            by_cases hle : id ≤ idj
            · go_wp2_with fail
              refine wp_known (wr.alloc (.cells #[.int .i64 id, .int .i64 over, .slice A' N c'] 34)) [.pointer (some ⟨wr.heap.size, 0, none⟩), .int .i64 id, .bool true, .bool false, .bool false, .pointer (some ⟨wr.heap.size, 1, none⟩), .int .i64 over, .bool true, .bool false, .bool false, .bool false, .pointer (some ⟨wr.heap.size, 1, none⟩), .int .i64 over, .pointer (some ⟨wr.heap.size, 0, none⟩), .int .i64 id, .bool false, .bool false, .bool false, .pointer (some ⟨wr.heap.size, 2, none⟩), .slice A' N c', .bool true, .bool false, .bool false, .bool false, .int .i64 K, .bool true, .bool true, .slice (some ⟨b, off, none⟩) n cap, .int .i64 K, .int .i64 j, .pointer (some ⟨b, off + j * 3, none⟩), .pointer (some ⟨b, off + j * 3, none⟩), .int .i64 idj, .pointer (some ⟨wr.heap.size, 0, none⟩), .int .i64 id, .bool true, .bool true, .bool true] (gb_refl _ _) (by kernel_rfl) (by kernel_rfl) ?_ ?_
              · refine ⟨?_, ?_, ?_, ?_, ?_, ?_, ?_, ?_, ?_, ?_, ?_, ?_, ?_, ?_, ?_, ?_, ?_, ?_, ?_, ?_, ?_, ?_, ?_, ?_, ?_, ?_, ?_, ?_, ?_, ?_, ?_, ?_, ?_, ?_, ?_, ?_, ?_, ?_, trivial⟩
                all_goals
                  intro n u x hn hC hp
                  simp [flowPreds, Region.binds, fKnown] at hp
                  have c0' := gb_cell hC c0 (by simp)
                  have c1' := gb_cell hC c1 (by simp)
                  have c2' := gb_cell hC c2 (by simp)
                  have q0' := Hjg.out x hC
                  go_simp
                all_goals try exact ⟨gb_refl _ _, rfl⟩
                · refine (c_l6In _ _ _ _).mono ?_
                  rintro e y ⟨rfl, rfl⟩
                  exact ⟨_, rfl, gb_refl _ _, by rw [H1.out]; rfl⟩
                · refine (c_l6In _ _ _ _).mono ?_
                  rintro e y ⟨rfl, rfl⟩
                  exact ⟨_, rfl, gb_refl _ _, by rw [H2.out]; rfl⟩
                · refine (Hc.out _ hC).mono ?_
                  rintro e y ⟨rfl, hg⟩
                  exact ⟨_, rfl, hg, by rw [HB.out]; rfl⟩
              · intro u x hC hp'
                have e1 : u 37 = .bool true := hp' 37 (by decide)
                go_simp
                go_wp2
                go_ret
                exact ⟨ret_bool (batches_bad hp.out (by rw [hok.out, HL.out]; simp; omega)).symm, gb_trans hG (gb_trans hG1 hC)⟩
            · have hlt' : idj < id := by omega
              have hltd : decide (id ≤ idj) = false := by simp; omega
              go_wp2_with fail
              refine wp_known (wr.alloc (.cells #[.int .i64 id, .int .i64 over, .slice A' N c'] 34)) [.pointer (some ⟨wr.heap.size, 0, none⟩), .int .i64 id, .bool true, .bool false, .bool false, .pointer (some ⟨wr.heap.size, 1, none⟩), .int .i64 over, .bool true, .bool false, .bool false, .bool false, .pointer (some ⟨wr.heap.size, 1, none⟩), .int .i64 over, .pointer (some ⟨wr.heap.size, 0, none⟩), .int .i64 id, .bool false, .bool false, .bool false, .pointer (some ⟨wr.heap.size, 2, none⟩), .slice A' N c', .bool true, .bool false, .bool false, .bool false, .int .i64 K, .bool true, .bool true, .slice (some ⟨b, off, none⟩) n cap, .int .i64 K, .int .i64 j, .pointer (some ⟨b, off + j * 3, none⟩), .pointer (some ⟨b, off + j * 3, none⟩), .int .i64 idj, .pointer (some ⟨wr.heap.size, 0, none⟩), .int .i64 id, .bool false, .bool false, .bool false] (gb_refl _ _) (by kernel_rfl) (by kernel_rfl) ?_ ?_
              · refine ⟨?_, ?_, ?_, ?_, ?_, ?_, ?_, ?_, ?_, ?_, ?_, ?_, ?_, ?_, ?_, ?_, ?_, ?_, ?_, ?_, ?_, ?_, ?_, ?_, ?_, ?_, ?_, ?_, ?_, ?_, ?_, ?_, ?_, ?_, ?_, ?_, ?_, ?_, trivial⟩
                all_goals
                  intro n u x hn hC hp
                  simp [flowPreds, Region.binds, fKnown] at hp
                  have c0' := gb_cell hC c0 (by simp)
                  have c1' := gb_cell hC c1 (by simp)
                  have c2' := gb_cell hC c2 (by simp)
                  have q0' := Hjg.out x hC
                  go_simp
                all_goals try exact ⟨gb_refl _ _, rfl⟩
                · refine (c_l6In _ _ _ _).mono ?_
                  rintro e y ⟨rfl, rfl⟩
                  exact ⟨_, rfl, gb_refl _ _, by rw [H1.out]; rfl⟩
                · refine (c_l6In _ _ _ _).mono ?_
                  rintro e y ⟨rfl, rfl⟩
                  exact ⟨_, rfl, gb_refl _ _, by rw [H2.out]; rfl⟩
                · refine (Hc.out _ hC).mono ?_
                  rintro e y ⟨rfl, hg⟩
                  exact ⟨_, rfl, hg, by rw [HB.out]; rfl⟩
              · intro u x hC hp'
                have e1 : u 37 = .bool false := hp' 37 (by decide)
                go_simp
                go_wp2
                go_roundw
                case rel => exact ⟨K + 1, by omega, by go_num, gb_trans hG (gb_trans hG1 hC), Lib.hid (by rw [← HK.out, bPre_step hp.out, hpre.out, hok.out, HL.out]; simp; omega)⟩
                case measure => simp [intOf]; omega
    · obtain rfl : k = n := by omega
      have Hfin : Hid (batchesOK bs = decide (k ≤ 8)) := Lib.hid (by unfold batchesOK; rw [hxl.out, hpre.out]; rfl)
      go_wp2
      go_ret
      exact ⟨ret_bool (by rw [Hfin.out]; simp; omega), hG⟩

end Go.Proofs.Ytdhkhlemdlibfaa
