/-
  The walk of the law FnBatchesTotal: totals are those of live batches.
-/
import Derived.Test.YtbhchlnbhimcpaaSumLaw
import Derived.Test.YtbhchlnbhimcpaaSame
import Derived.Test.YtbhchlnbhimcpaaDrawBatch
namespace Go.Proofs.Ytbhchlnbhimcpaa.lawFnBatchesTotal
open Go.RowKit
set_option linter.unusedVariables false

theorem c_Draw (A : Option Addr) (len cap : Nat) (w : World) (h : CodeArg w A len cap) :
    Calls Try.prog 36 #[.slice A len cap] w fun e w' => ∃ B c bs, e = .returned (.slice B bs.length c) ∧ Bats w' w.heap.size B bs.length c bs ∧ bs.length ≤ 9 ∧ (∀ b ∈ bs, SmallPls b.2.2) ∧ w.grownBy w' none := by
  go_enter Try.func36, Try.ntmps36
  go_wp2_with fail
  refine (c_l6Open A len cap w h).mono ?_
  rintro e w1 ⟨rfl, hR1, hg1, hz1⟩
  go_wp2_with fail
  refine (c_l93Batches _ _ _ hR1 (by omega)).mono ?_
  rintro e w2 ⟨B, c, bs, rfl, hbs, hl, hs, hR2, hg2⟩
  have hG2 : w.grownBy w2 none := gb_step hg1 hg2 (fun g e => by injection e with e; right; omega)
  have hb' := hbs.mono hg1.size
  obtain ⟨N, hN⟩ : ∃ N, bs.length = N := ⟨_, rfl⟩
  have HN := Lib.hid hN
  rw [hN]
  clear hN
  go_wp2
  go_ret
  exact ⟨B, c, bs, by rw [HN.out]; rfl, hb', hl, hs, hG2⟩

theorem mem_live {bs : List Bt} {k : Nat} {b : Bt} (h : bs[k]? = some b) : memI (liveIds bs) b.1 = !overB bs b.1 := by
  rcases ho : overB bs b.1 with _ | _
  · show memI _ _ = true
    exact List.any_eq_true.2 ⟨b.1, List.mem_map.2 ⟨b, List.mem_filter.2 ⟨List.mem_of_getElem? h, by simp [ho]⟩, rfl⟩, by simp⟩
  · show memI _ _ = false
    unfold memI
    rw [List.any_eq_false]
    intro x hx
    obtain ⟨c, hc, rfl⟩ := List.mem_map.1 hx
    have h1 := (List.mem_filter.1 hc).2
    intro h2
    have h2 : c.1 = b.1 := by simpa using h2
    rw [h2, ho] at h1
    simp at h1

set_option maxRecDepth 100000 in
set_option maxHeartbeats 4000000 in
theorem walk (a0 : Option Addr) (len0 cap0 : Nat) (w : World) (c0 : CodeArg w a0 len0 cap0) :
    Calls Try.prog 11 #[.slice a0 len0 cap0] w fun e w' => e = .returned (.bool true) ∧ Below w.heap.size w w' := by
  by_cases h0 : 1048576 < len0
  · go_enter Try.func11, Try.ntmps11
    go_wp2
    go_ret
    exact ⟨rfl, Below.refl _ _⟩
  go_enter Try.func11, Try.ntmps11
  go_wp2_with fail
  refine (c_Draw _ _ _ _ c0).mono ?_
  rintro e w1 ⟨A, c, bs, rfl, hb1, hl9, hsm, hg1⟩
  have Ht : Hid (∀ b ∈ bs, ∀ p ∈ b.2.2, p.1.size ≤ 2000000) := Lib.hid (fun b hb p hp => by have := (hsm b hb).2 p hp; omega)
  have Hl1 : Hid (∀ b ∈ bs, b.2.2.length ≤ 1100000) := Lib.hid (fun b hb => by have := (hsm b hb).1; omega)
  obtain ⟨n, hn⟩ : ∃ n, bs.length = n := ⟨_, rfl⟩
  have hxl := Lib.hid hn
  rw [hn] at hb1 hl9
  rw [hn]
  obtain ⟨V, hV⟩ : ∃ V, totRes bs = V := ⟨_, rfl⟩
  have HV := Lib.hid hV
  obtain ⟨O, hO⟩ : ∃ O, totOK bs = O := ⟨_, rfl⟩
  have HO := Lib.hid hO
  obtain ⟨m, hm⟩ : ∃ m, V.length = m := ⟨_, rfl⟩
  have Hm := Lib.hid hm
  have hm1 : m ≤ 96 := by
    rw [← hm, ← hV, totRes]
    split
    · rename_i hok
      unfold totOK at hok
      rw [Bool.and_eq_true] at hok
      have h1 := (live_small hok.1).2
      have h2 := canon_len (liveEs bs)
      omega
    · exact Nat.zero_le _
  have HVs : Hid (∀ p ∈ V, p.1.size ≤ 2000000) := Lib.hid (by
    rw [← hV, totRes]
    split
    · exact canon_sizes (liveEs_sizes Ht.out)
    · intro p hp; cases hp)
  have hdV : decide (V = V) = true := by simp
  have hOO : (O != O) = false := by simp
  have hOO2 : (O == O) = true := by simp
  have hlc := hb1.le
  have hcm := hb1.max
  clear hn hV hO hm c0
  go_wp2_with fail
  refine (c_impl_BatchesTotal _ _ _ _ bs _ hb1 hg1.size (by omega) Ht.out).mono ?_
  rintro e w2 ⟨B2, c2, rfl, hg2, ho2⟩
  rw [HV.out, Hm.out] at ho2
  rw [HV.out, HO.out, Hm.out]
  have hG2 := gb_trans hg1 hg2
  have hb2 := Recs.keep0 hb1 hg2
  go_wp2_with fail
  refine (c_spec_BatchesTotal _ _ _ _ bs _ hb2 hG2.size (by omega) Hl1.out Ht.out).mono ?_
  rintro e w3 ⟨B3, c3, rfl, hg3, ho3⟩
  rw [HV.out, Hm.out] at ho3
  rw [HV.out, HO.out, Hm.out]
  have hG3 := gb_trans hG2 hg3
  have hb3 := Recs.keep0 hb2 hg3
  have ho2_3 := own_below ho2 hg3
  have hlc2 := (Sl.own ho2).le
  have hcm2 := (Sl.own ho2).max
  go_wp2_with fail
  refine (c_samePiles _ _ _ _ _ _ _ _ V V _ (Sl.own ho2_3) (Sl.own ho3)).mono ?_
  rintro e w4 ⟨rfl, hg4⟩
  have hG4 := gb_trans hG3 hg4
  have hb4 := Recs.keep0 hb3 hg4
  have ho2_4 := own_below ho2_3 hg4
  have ho3_4 := own_below ho3 hg4
  clear hb1 hb2 hb3 ho2 ho2_3 ho3
  cases O with
  | false =>
    go_wp2_with fail
    refine (c_samePiles _ _ _ _ _ _ _ _ V V _ (Sl.own ho2_4) (Sl.own ho3_4)).mono ?_
    rintro e w5 ⟨rfl, hg5⟩
    go_wp2
    go_ret
    exact ⟨rfl, gb_below (gb_trans hG4 hg5)⟩
  | true =>
    have hK : Hid (batchesOK bs = true) := Lib.hid (by have h1 := HO.out; unfold totOK at h1; rw [Bool.and_eq_true] at h1; exact h1.1)
    have hpt : Hid (pTotal V = sumPl (liveEs bs)) := Lib.hid (by rw [← HV.out]; exact pTotal_tot HO.out)
    have Hall : Hid (∀ b ∈ bs, pilesOK b.2.2 = true) := Lib.hid (fun b hb => btOK_piles ((batchesOK_all hK.out).1 b hb))
    go_wp2_with fail
    refine (c_impl_BatchesLive _ _ _ _ bs _ hb4 hG4.size (by omega) Ht.out).mono ?_
    rintro e w5 ⟨B5, m5, c5, rfl, hg5, ho5⟩
    have hlr : liveRes bs = liveIds bs := by rw [liveRes, hK.out, if_pos rfl]
    rw [hlr] at ho5
    have hI5 : Ints w5 w4.heap.size B5 m5 c5 (liveIds bs) := Sl.own ho5
    have hlc5 := hI5.le
    have hcm5 := hI5.max
    have hG5 := gb_trans hG4 hg5
    have hb5 := Recs.keep0 hb4 hg5
    have hP5 : Piles w5 w1.heap.size B2 m c2 V := Sl.own (own_below ho2_4 hg5)
    clear hlr ho5 ho2_4 ho3_4 hb4
    go_wp2
    go_loopw [9, 10] (fun v9 v10 wr => ∃ (k : Nat) (F : Int), k ≤ n ∧ v10 = .int .i64 (k : Int) ∧ v9 = .int .i64 F ∧ 0 ≤ F ∧ F ≤ 1188 * k ∧ w5.grownBy wr none ∧ Hid (F = sumPl (liveOf bs (bs.take k)))) (fun _ v10 _ => n - (intOf v10).toNat)
    case atStart => exact ⟨0, 0, Nat.zero_le _, rfl, rfl, by omega, by omega, gb_refl _ _, Lib.hid rfl⟩
    case round =>
      obtain ⟨k, F, hk, rfl, rfl, hF0, hF1, hG, hF⟩ := hrel
      rename World => wk
      by_cases hlt : k < n
      · obtain ⟨b, off, id, over, ps, A', c', rfl, hp, hps, m0, m1, m2⟩ := Bats.at_ (Recs.keep0 hb5 hG) hlt
        have hk' : (k : Int) < (n : Int) := by omega
        have hk0 : (0 : Int) ≤ (k : Int) := by omega
        have hmem := mem_live hp.out
        obtain ⟨E, hE⟩ : ∃ E, overB bs id = E := ⟨_, rfl⟩
        have HE := Lib.hid hE
        have hmem : memI (liveIds bs) id = !E := by rw [← hE]; exact hmem
        clear hE
        obtain ⟨N, hN⟩ : ∃ N, ps.length = N := ⟨_, rfl⟩
        have HN := Lib.hid hN
        rw [hN] at hps m2
        clear hN
        go_wp2_with fail
        refine (c_hasInt _ _ _ _ _ id _ (Sl.keep0 hI5 hG)).mono ?_
        rintro e w6 ⟨rfl, rfl⟩
        rw [hmem]
        cases E with
        | true =>
          go_wp2
          go_roundw
          case rel => exact ⟨k + 1, F, by omega, by go_num, rfl, by omega, by omega, hG, Lib.hid (by rw [liveOf_step hp.out, HE.out, if_pos rfl, List.append_nil]; exact hF.out)⟩
          case measure => simp [intOf]; omega
        | false =>
          have hpv : pilesOK ps = true := Hall.out _ (List.mem_of_getElem? hp.out)
          have hps2 := (pilesOK_iff ps).1 hpv
          have hsb := sumPl_bound hps2.1
          have hl12 : ps.length ≤ 12 := hps2.2.2
          obtain ⟨S, hS⟩ : ∃ S, sumPl ps = S := ⟨_, rfl⟩
          have HS := Lib.hid hS
          have hpS : Hid (pTotal ps = S) := Lib.hid (by rw [pTotal, hpv, if_pos rfl, hS])
          rw [hS] at hsb
          clear hS hps2 hpv
          go_wp2_with fail
          refine (c_impl_PilesTotal _ _ _ _ ps _ hps (Ht.out _ (List.mem_of_getElem? hp.out))).mono ?_
          rintro e w7 ⟨rfl, hg7⟩
          rw [hpS.out]
          go_wp2
          go_roundw
          case rel => exact ⟨k + 1, F + S, by omega, by go_num, rfl, by omega, by omega, gb_trans hG hg7, Lib.hid (by rw [liveOf_step hp.out, HE.out, if_neg (by simp), sumPl_app, ← hF.out, ← HS.out])⟩
          case measure => simp [intOf]; omega
      · obtain rfl : k = n := by omega
        have hFo : Hid (pTotal V = F) := Lib.hid (by rw [hpt.out, hF.out, List.take_of_length_le (by rw [hxl.out]; exact Nat.le_refl _)]; rfl)
        have hFF : (F == F) = true := by simp
        go_wp2_with fail
        refine (c_impl_PilesTotal _ _ _ _ V _ (Piles.keep0 hP5 hG) HVs.out).mono ?_
        rintro e w7 ⟨rfl, hg7⟩
        rw [hFo.out]
        go_wp2
        go_ret
        exact ⟨rfl, gb_below (gb_trans (gb_trans hG5 hG) hg7)⟩
end Go.Proofs.Ytbhchlnbhimcpaa.lawFnBatchesTotal
