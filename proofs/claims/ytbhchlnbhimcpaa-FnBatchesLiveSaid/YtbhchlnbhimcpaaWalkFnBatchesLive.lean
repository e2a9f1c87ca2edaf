/-
  The walk of the law FnBatchesLive: a batch that was replaced is not live.
-/
import Derived.Test.YtbhchlnbhimcpaaBatchesLive
import Derived.Test.YtbhchlnbhimcpaaDrawBatch
import Derived.Test.YtbhchlnbhimcpaaTo
import Derived.Test.YtbhchlnbhimcpaaFlow2
namespace Go.Proofs.Ytbhchlnbhimcpaa.lawFnBatchesLive
open Go.RowKit
set_option linter.unusedVariables false

theorem c_DrawBatchesLive (A : Option Addr) (len cap : Nat) (w : World) (h : CodeArg w A len cap) :
    Calls Try.prog 21 #[.slice A len cap] w fun e w' => ∃ B c bs, e = .returned (.slice B bs.length c) ∧ Bats w' w.heap.size B bs.length c bs ∧ bs.length ≤ 9 ∧ (∀ b ∈ bs, SmallPls b.2.2) ∧ w.grownBy w' none := by
  go_enter Try.func21, Try.ntmps21
  go_wp2_with fail
  refine (c_l6Open A len cap w h).mono ?_
  rintro e w1 ⟨rfl, hR1, hg1, hz1⟩
  go_wp2_with fail
  refine (c_l93Batches _ _ _ hR1 (by omega)).mono ?_
  rintro e w2 ⟨B, c, bs, rfl, hbs, hl, hs, hR2, hg2⟩
  have hG2 : w.grownBy w2 none := gb_step hg1 hg2 (fun g e => by injection e with e; right; omega)
  have hb' := hbs.mono hg1.size
  obtain ⟨N, hN⟩ : ∃ N, bs.length = N := ⟨_, rfl⟩
  have HN := Lib.hid hN
  rw [hN]
  clear hN
  go_wp2
  go_ret
  exact ⟨B, c, bs, by rw [HN.out]; rfl, hb', hl, hs, hG2⟩

theorem live_split {bs : List Bt} {k : Nat} {b : Bt} (h : bs[k]? = some b) (hl : overB bs b.1 = false) : (liveIds bs)[((bs.take k).filter (fun b => !overB bs b.1)).length]? = some b.1 := by
  have h1 : bs = bs.take k ++ b :: bs.drop (k + 1) := by rw [← drop_cons' h, List.take_append_drop]
  have h2 : live bs = (bs.take k).filter (fun b => !overB bs b.1) ++ b :: (bs.drop (k + 1)).filter (fun b => !overB bs b.1) := by
    have h3 : live bs = (bs.take k ++ b :: bs.drop (k + 1)).filter (fun b => !overB bs b.1) := by rw [← h1]; rfl
    rw [h3, List.filter_append, List.filter_cons_of_pos (by simp [hl])]
  rw [liveIds, List.getElem?_map, h2, List.getElem?_append_right (Nat.le_refl _), Nat.sub_self]
  rfl

attribute [local go_sem] flowAct flowOp_def flowUpon
set_option maxRecDepth 100000 in
set_option maxHeartbeats 4000000 in
theorem walk (a0 : Option Addr) (len0 cap0 : Nat) (w : World) (c0 : CodeArg w a0 len0 cap0) :
    Calls Try.prog 4 #[.slice a0 len0 cap0] w fun e w' => e = .returned (.bool true) ∧ Below w.heap.size w w' := by
  by_cases h0 : 1048576 < len0
  · go_enter Try.func4, Try.ntmps4
    go_wp2
    go_ret
    exact ⟨rfl, Below.refl _ _⟩
  go_enter Try.func4, Try.ntmps4
  go_wp2_with fail
  refine (c_DrawBatchesLive _ _ _ _ c0).mono ?_
  rintro e w1 ⟨A, c, bs, rfl, hb1, hl9, hsm, hg1⟩
  have Ht : Hid (∀ b ∈ bs, ∀ p ∈ b.2.2, p.1.size ≤ 2000000) := Lib.hid (fun b hb p hp => by have := (hsm b hb).2 p hp; omega)
  obtain ⟨n, hn⟩ : ∃ n, bs.length = n := ⟨_, rfl⟩
  have hxl := Lib.hid hn
  rw [hn] at hb1 hl9
  rw [hn]
  obtain ⟨V, hV⟩ : ∃ V, liveRes bs = V := ⟨_, rfl⟩
  have HV := Lib.hid hV
  obtain ⟨K, hK⟩ : ∃ K, batchesOK bs = K := ⟨_, rfl⟩
  have HK := Lib.hid hK
  have hdV : decide (V = V) = true := by simp
  have hlc := hb1.le
  have hcm := hb1.max
  clear hn hsm hV hK c0
  go_wp2_with fail
  refine (c_impl_BatchesLive _ _ _ _ bs _ hb1 hg1.size (by omega) Ht.out).mono ?_
  rintro e w2 ⟨B2, m2, c2, rfl, hg2, ho2⟩
  rw [HV.out] at ho2
  have hG2 := gb_trans hg1 hg2
  have hb2 := Recs.keep0 hb1 hg2
  go_wp2_with fail
  refine (c_spec_BatchesLive _ _ _ _ bs _ hb2 (by omega) Ht.out).mono ?_
  rintro e w3 ⟨B3, m3, c3, rfl, hg3, ho3⟩
  rw [HV.out] at ho3
  have hG3 := gb_trans hG2 hg3
  have hb3 := Recs.keep0 hb2 hg3
  have ho2_3 := own_below ho2 hg3
  go_wp2_with fail
  refine (c_sameInts _ _ _ _ _ _ _ _ V V _ (Sl.own ho2_3) (Sl.own ho3)).mono ?_
  rintro e w4 ⟨rfl, d4, rfl⟩
  have hg4 := gb_drewN (gb_refl w3 none) d4
  have hb4 := Recs.keep0 hb3 hg4
  have ho2_4 := own_below ho2_3 hg4
  have ho3_4 := own_below ho3 hg4
  clear hb1 hb2 hb3 ho2 ho2_3 ho3
  go_wp2_with fail
  refine (c_spec_BatchesValid _ _ _ _ bs _ hb4 Ht.out).mono ?_
  rintro e w5 ⟨rfl, hg5⟩
  rw [HK.out]
  have hb5 := Recs.keep0 hb4 hg5
  have ho5 := own_below ho2_4 hg5
  have hG5 := gb_trans hG3 (gb_trans hg4 hg5)
  cases K with
  | false =>
    go_wp2_with fail
    refine (c_sameInts _ _ _ _ _ _ _ _ V V _ (Sl.own ho5) (Sl.own (own_below ho3_4 hg5))).mono ?_
    rintro e w6 ⟨rfl, d6, rfl⟩
    go_wp2
    go_ret
    exact ⟨rfl, gb_below (gb_drewN hG5 d6)⟩
  | true =>
    have hVl : Hid (V = liveIds bs) := Lib.hid (by rw [← HV.out, liveRes, HK.out, if_pos rfl])
    have hI5 : Ints w5 w1.heap.size B2 m2 c2 V := Sl.own ho5
    have hml := Lib.hid (Ints.len hI5)
    have hm2 : m2 ≤ 9 := by
      have h1 := hml.out
      rw [hVl.out, liveIds, List.length_map] at h1
      have h2 : (live bs).length ≤ bs.length := List.length_filter_le _ _
      have := hxl.out
      omega
    have hlc2 := hI5.le
    have hcm2 := hI5.max
    clear hb4 ho2_4 ho3_4 ho5
    go_wp2
    go_loopw [6, 7] (fun v6 v7 wr => ∃ (k j : Nat), k ≤ n ∧ j ≤ m2 ∧ v7 = .int .i64 (k : Int) ∧ v6 = .int .i64 (j : Int) ∧ w5.grownBy wr none ∧ Hid (j = ((bs.take k).filter (fun b => !overB bs b.1)).length)) (fun _ v7 _ => n - (intOf v7).toNat)
    case atStart => exact ⟨0, 0, Nat.zero_le _, Nat.zero_le _, rfl, rfl, gb_refl _ _, Lib.hid rfl⟩
    case round =>
      obtain ⟨k, j, hk, hj, rfl, rfl, hG, hjl⟩ := hrel
      rename World => wk
      by_cases hlt : k < n
      · obtain ⟨b, off, id, over, ps, A', c', rfl, hp, _, m0, m1, _⟩ := Bats.at_ hb5 hlt
        have hk' : (k : Int) < (n : Int) := by omega
        have hk0 : (0 : Int) ≤ (k : Int) := by omega
        go_wp2
        go_loopw [8, 9] (fun v8 v9 wr => ∃ (q : Nat) (F : Bool), q ≤ n ∧ v9 = .int .i64 (q : Int) ∧ v8 = .bool F ∧ w5.grownBy wr none ∧ Hid (F = (bs.take q).any (fun b => b.2.1 == id))) (fun _ v9 _ => n - (intOf v9).toNat)
        case atStart => exact ⟨0, false, Nat.zero_le _, rfl, rfl, hG, Lib.hid rfl⟩
        case round =>
          obtain ⟨q, F, hq, rfl, rfl, hGq, hF⟩ := hrel
          rename World => wq
          by_cases hqn : q < n
          · obtain ⟨b', off', idq, oq, psq, _, _, he, hpq, _, q0, q1, _⟩ := Bats.at_ hb5 hqn
            injection he with he
            injection he with he1 he2
            subst he1 he2
            have hq' : (q : Int) < (n : Int) := by omega
            have hq0 : (0 : Int) ≤ (q : Int) := by omega
            obtain ⟨E, hE⟩ : ∃ E, (oq == id) = E := ⟨_, rfl⟩
            have HE := Lib.hid hE
            cases F with
            | true =>
              go_wp2_with fail
              refine wp_known2 wq [.bool true, .bool true, undef, undef, undef, undef, undef, undef, undef, undef, undef, undef, undef, .bool true, .bool true] (gb_refl _ _) (by kernel_rfl) (by kernel_rfl) ?_ ?_
              · refine ⟨fun n u x hn hC hp hu => ?_, ?_, ?_, ?_, ?_, ?_, ?_, ?_, ?_, ?_, ?_, ?_, ?_, ?_, ?_, trivial⟩
                · have h14 : u 14 = .bool true := hu 14 _ rfl (by simp [flowPreds, Region.binds]) 8 rfl
                  clear hu hp
                  go_simp
                  exact ⟨gb_refl _ _, rfl⟩
                all_goals
                  intro n u x hn hC hp hu
                  clear hu
                  simp [flowPreds, Region.binds, fKnown] at hp
                  go_simp
                all_goals try exact ⟨gb_refl _ _, rfl⟩
              · intro u x hC hp'
                have e1 : u 14 = .bool true := hp' 14 (by decide)
                go_simp
                go_wp2
                go_roundw
                case rel => exact ⟨q + 1, true, by omega, by go_num, rfl, gb_trans hGq hC, Lib.hid (by rw [take_succ_of hpq.out, List.any_append, ← hF.out]; rfl)⟩
                case measure => simp [intOf]; omega
            | false =>
              have q0' := gb_cell hGq q1 (by simp)
              have m0' := gb_cell hGq m0 (by simp)
              go_wp2_with fail
              refine wp_known2 wq [.bool false, .bool false, .slice (some ⟨b, off, none⟩) n c, .int .i64 q, .pointer (some ⟨b, off + q * 3, none⟩), .pointer (some ⟨b, off + q * 3 + 1, none⟩), .int .i64 oq, .slice (some ⟨b, off, none⟩) n c, .int .i64 k, .pointer (some ⟨b, off + k * 3, none⟩), .pointer (some ⟨b, off + k * 3, none⟩), .int .i64 id, .bool E, .bool E, .bool E] (gb_refl _ _) (by kernel_rfl) (by kernel_rfl) ?_ ?_
              · refine ⟨fun n u x hn hC hp hu => ?_, ?_, ?_, ?_, ?_, ?_, ?_, ?_, ?_, ?_, ?_, ?_, ?_, ?_, ?_, trivial⟩
                · have h14 : u 14 = .bool false := hu 14 _ rfl (by simp [flowPreds, Region.binds]) 8 rfl
                  clear hu hp
                  go_simp
                  exact ⟨gb_refl _ _, rfl⟩
                all_goals
                  intro n u x hn hC hp hu
                  clear hu
                  simp [flowPreds, Region.binds, fKnown] at hp
                  have q0'' := gb_cell hC q0' (by simp)
                  have m0'' := gb_cell hC m0' (by simp)
                  go_simp
                all_goals try exact ⟨gb_refl _ _, rfl⟩
              · intro u x hC hp'
                have e1 : u 14 = .bool E := hp' 14 (by decide)
                clear hE
                go_simp
                go_wp2
                go_roundw
                case rel => exact ⟨q + 1, E, by omega, by go_num, rfl, gb_trans hGq hC, Lib.hid (by rw [take_succ_of hpq.out, List.any_append, ← hF.out, ← HE.out]; simp)⟩
                case measure => simp [intOf]; omega
          · obtain rfl : q = n := by omega
            have hFo : Hid (F = overB bs id) := Lib.hid (by
              have := hF.out
              rwa [List.take_of_length_le (by rw [hxl.out]; exact Nat.le_refl _)] at this)
            cases F with
            | true =>
              go_wp2
              go_roundw
              case rel => exact ⟨k + 1, j, by omega, hj, by go_num, rfl, hGq, Lib.hid (by rw [live_take hp.out, ← hFo.out, if_pos rfl, List.append_nil]; exact hjl.out)⟩
              case measure => simp [intOf]; omega
            | false =>
              have hat : V[j]? = some id := by
                rw [hVl.out, hjl.out]
                exact live_split hp.out hFo.out.symm
              have hjm : j < m2 := by
                have := (List.getElem?_eq_some_iff.1 hat).1
                rw [hml.out] at this
                exact this
              obtain ⟨b2, off2, z2, rfl, hz2, hc2⟩ := Ints.at_ (Sl.keep0 hI5 hGq) hjm
              obtain rfl : z2 = id := by
                have := hz2.out
                rw [hat] at this
                injection this with this
                exact this.symm
              have hj' : (j : Int) < (m2 : Int) := by omega
              have hj0 : (0 : Int) ≤ (j : Int) := by omega
              have hnge : decide (m2 ≤ j) = false := by simp; omega
              have hne : (z2 != z2) = false := by simp
              have m0' := gb_cell hGq m0 (by simp)
              clear hat
              go_wp2_with fail
              refine wp_known wq [.int .i64 j, .slice (some ⟨b2, off2, none⟩) m2 c2, .int .i64 m2, .bool false, .bool false, .slice (some ⟨b2, off2, none⟩) m2 c2, .int .i64 j, .pointer (some ⟨b2, off2 + j, none⟩), .int .i64 z2, .slice (some ⟨b, off, none⟩) q c, .int .i64 k, .pointer (some ⟨b, off + k * 3, none⟩), .pointer (some ⟨b, off + k * 3, none⟩), .int .i64 z2, .bool false, .bool false] (gb_refl _ _) (by kernel_rfl) (by kernel_rfl) ?_ ?_
              · refine ⟨?_, ?_, ?_, ?_, ?_, ?_, ?_, ?_, ?_, ?_, ?_, ?_, ?_, ?_, ?_, ?_, trivial⟩
                all_goals
                  intro n u x hn hC hp
                  simp [flowPreds, Region.binds, fKnown] at hp
                  have c2'' := gb_cell hC hc2 (by simp)
                  have m0'' := gb_cell hC m0' (by simp)
                  go_simp
                all_goals try exact ⟨gb_refl _ _, rfl⟩
              · intro u x hC hp'
                have e1 : u 15 = .bool false := hp' 15 (by decide)
                go_simp
                go_wp2
                go_roundw
                case rel => exact ⟨k + 1, j + 1, by omega, by omega, by go_num, by go_num, gb_trans hGq hC, Lib.hid (by rw [live_take hp.out, ← hFo.out, hjl.out]; simp)⟩
                case measure => simp [intOf]; omega
      · obtain rfl : k = n := by omega
        have hjm : Hid (j = m2) := Lib.hid (by
          have h1 := hjl.out
          rw [List.take_of_length_le (by rw [hxl.out]; exact Nat.le_refl _)] at h1
          have h2 := hml.out
          rw [hVl.out, liveIds, List.length_map] at h2
          rw [h1, ← h2]
          rfl)
        have hje : ((j : Int) == (m2 : Int)) = true := by have := hjm.out; simp; omega
        go_wp2
        go_ret
        exact ⟨ret_bool (by simp), gb_below (gb_trans hG5 hG)⟩
end Go.Proofs.Ytbhchlnbhimcpaa.lawFnBatchesLive
