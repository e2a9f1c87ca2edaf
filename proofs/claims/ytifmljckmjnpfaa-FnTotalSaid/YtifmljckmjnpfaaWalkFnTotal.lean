/-
  The walk of the law FnTotal: totals add up.
-/
import Derived.Test.YtifmljckmjnpfaaFirstLaw
import Derived.Test.YtifmljckmjnpfaaTotLaw
import Derived.Test.YtifmljckmjnpfaaSame
import Derived.Test.YtifmljckmjnpfaaDrawPct
namespace Go.Proofs.Ytifmljckmjnpfaa.lawFnTotal
open Go.RowKit
set_option linter.unusedVariables false

def none5 : List Bool := [false, false, false, false, false]
theorem boolInfo : (Try.prog.info? 4).map (fun i => (i.zero, i.size, i.bytes)) = some (some (.bool false), 1, 1) := by kernel_rfl
theorem boolE : Elem Try.prog 51 4 1 1 (.bool false) := ⟨Try.underlying51, info_parts boolInfo, rfl, by omega⟩
theorem mk_bool (x : World) : (Instr.makeSlice 51 (.int .i64 5) (.int .i64 5)).run Try.prog x = .ok (.slice (some ⟨x.heap.size, 0, none⟩) 5 5) (x.alloc (.cells #[.bool false, .bool false, .bool false, .bool false, .bool false] 4)) := by
  have h := run_mk boolE 5 (by omega) (by omega) x
  rw [show madeCells (Value.bool false).cells (5 * 1) = #[.bool false, .bool false, .bool false, .bool false, .bool false] from by kernel_rfl] at h
  exact h
theorem mk_int (x : World) : (Instr.makeSlice 32 (.int .i64 5) (.int .i64 5)).run Try.prog x = .ok (.slice (some ⟨x.heap.size, 0, none⟩) 5 5) (x.alloc (.cells #[.int .i64 0, .int .i64 0, .int .i64 0, .int .i64 0, .int .i64 0] 3)) := by
  have h := run_mk intE 5 (by omega) (by omega) x
  rw [show madeCells (Value.int .i64 0).cells (5 * 1) = #[.int .i64 0, .int .i64 0, .int .i64 0, .int .i64 0, .int .i64 0] from by kernel_rfl] at h
  exact h

attribute [local go_sem] flowAct flowOp_def flowUpon
set_option maxRecDepth 100000 in
set_option maxHeartbeats 4000000 in
theorem walk (a0 : Option Addr) (len0 cap0 : Nat) (w : World) (c0 : CodeArg w a0 len0 cap0) :
    Calls Try.prog 10 #[.slice a0 len0 cap0] w fun e w' => e = .returned (.bool true) ∧ Below w.heap.size w w' := by
  by_cases h0 : 1048576 < len0
  · go_enter Try.func10, Try.ntmps10
    go_wp2
    go_ret
    exact ⟨rfl, Below.refl _ _⟩
  go_enter Try.func10, Try.ntmps10
  go_wp2_with fail
  refine (c_DrawPrecinctsTotal _ _ _ _ c0).mono ?_
  rintro e w1 ⟨A, cap, bs, rfl, hb1, hl7, hsm, hg1⟩
  have Ht : Hid (∀ b ∈ bs, ∀ p ∈ b.2, p.1.size ≤ 2000000) := Lib.hid (fun b hb p hp => by have := (hsm b hb).2 p hp; omega)
  have Hl1 : Hid (∀ b ∈ bs, b.2.length ≤ 1100000) := Lib.hid (fun b hb => by have := (hsm b hb).1; omega)
  obtain ⟨n, hn⟩ : ∃ n, bs.length = n := ⟨_, rfl⟩
  have hxl := Lib.hid hn
  rw [hn] at hb1 hl7
  rw [hn]
  obtain ⟨V, hV⟩ : ∃ V, ptotRes bs = V := ⟨_, rfl⟩
  have HV := Lib.hid hV
  obtain ⟨O, hO⟩ : ∃ O, ptotOK bs = O := ⟨_, rfl⟩
  have HO := Lib.hid hO
  obtain ⟨m, hm⟩ : ∃ m, V.length = m := ⟨_, rfl⟩
  have Hm := Lib.hid hm
  have hlc := hb1.le
  have hcm := hb1.max
  clear hn hV hO hm hsm c0
  have hOO : (O != O) = false := by simp
  have hOO2 : (O == O) = true := by simp
  go_wp2_with fail
  refine (c_impl_PrecinctsTotal _ A n cap bs _ hb1 hg1.size (by omega) Ht.out).mono ?_
  rintro e w2 ⟨B2, c2, rfl, hg2, ho2⟩
  rw [HV.out, Hm.out] at ho2
  rw [HV.out, HO.out, Hm.out]
  have hG2 := gb_trans hg1 hg2
  go_wp2_with fail
  refine (c_spec_PrecinctsTotal _ A n cap bs _ (Recs.keep0 hb1 hg2) hG2.size (by omega) Hl1.out Ht.out).mono ?_
  rintro e w3 ⟨B3, c3, rfl, hg3, ho3⟩
  rw [HV.out, Hm.out] at ho3
  rw [HV.out, HO.out, Hm.out]
  have hG3 := gb_trans hG2 hg3
  have ho2_3 := own_below ho2 hg3
  go_wp2_with fail
  refine (c_samePiles _ _ _ _ _ _ _ _ V V _ (Sl.own ho2_3) (Sl.own ho3)).mono ?_
  rintro e w4 ⟨rfl, hg4⟩
  have hG4 := gb_trans hG3 hg4
  have ho2_4 := own_below ho2_3 hg4
  have ho3_4 := own_below ho3 hg4
  have hb4 := Recs.keep0 hb1 (gb_trans hg2 (gb_trans hg3 hg4))
  clear ho2 ho2_3 ho3 hb1 hG2 hG3
  cases O with
  | false =>
    go_wp2_with fail
    refine (c_samePiles _ _ _ _ _ _ _ _ V V _ (Sl.own ho2_4) (Sl.own ho3_4)).mono ?_
    rintro e w5 ⟨rfl, hg5⟩
    go_wp2
    go_ret
    exact ⟨rfl, gb_below (gb_trans hG4 hg5)⟩
  | true =>
    have hok := HO.out
    unfold ptotOK at hok
    rw [Bool.and_eq_true] at hok
    have hpo := Lib.hid (pctsOK_piles hok.1)
    have hn6 : n ≤ 6 := by have := pctsOK_len hok.1; have := hxl.out; omega
    have hVc : V = canon (pctEs bs) := by rw [← HV.out, ptotRes, HO.out]; rfl
    have hVo : pilesOK V = true := by rw [hVc]; exact hok.2
    obtain ⟨hse, hl72⟩ := pcts_small hpo.out (by rw [hxl.out]; exact hn6)
    have hVt : Hid (∀ p ∈ V, p.1.size ≤ 2000000) := Lib.hid (by rw [hVc]; exact canon_sizes (pctEs_sizes Ht.out))
    have hfitV : Hid (fitOK V 5 = true) := Lib.hid (fit5 hVo)
    have hfcV : Hid (fCounts none5 V = fCounts none5 (pctEs bs)) := Lib.hid (by
      rw [hVc]
      exact fCounts_ext (fun f => sumF_canon hse (by omega)))
    have hptV : Hid (pTotal V = wsum pcWt bs) := Lib.hid (by rw [pTotal, if_pos hVo, hVc, sum_canon hse (by omega), sum_pctEs])
    have hbnd : Hid (∀ (k c : Nat), 0 ≤ sumF (isFirst none5 c) (pctEs (bs.take k)) ∧ sumF (isFirst none5 c) (pctEs (bs.take k)) ≤ 7128) := Lib.hid (fun k c => by
      have hsub := pctEs_len_le (List.take_sublist k bs)
      have hm : ∀ e ∈ pctEs (bs.take k), 0 ≤ e.2 ∧ e.2 ≤ 99 := fun e he => by
        obtain ⟨b, hb, hpb⟩ := pctEs_mem he
        exact hse.1 e (List.mem_flatMap.2 ⟨b, List.take_subset _ _ hb, hpb⟩)
      have h1 := sumF_le (f := isFirst none5 c) (fun e he => (hm e he).1)
      have h2 := sumPl_le (fun e he => (hm e he).2)
      omega)
    have hbnd2 : Hid (∀ (b : Pc), b ∈ bs → ∀ c : Nat, 0 ≤ sumF (isFirst none5 c) b.2 ∧ sumF (isFirst none5 c) b.2 ≤ 1188) := Lib.hid (fun b hb c => by
      have hv := (pilesOK_iff b.2).1 (hpo.out b hb)
      have h1 := sumF_le (f := isFirst none5 c) (fun e he => by have := plOK_many (hv.1 e he); omega)
      have h2 := sumPl_bound hv.1
      omega)
    clear hok hVc hVo hse hl72 ho3_4
    have hmb := mk_bool
    have hmi := mk_int
    have hBb := Blk.new w4 4 #[.bool false, .bool false, .bool false, .bool false, .bool false]
    obtain ⟨w5, hw5⟩ : ∃ w5, w4.alloc (.cells #[.bool false, .bool false, .bool false, .bool false, .bool false] 4) = w5 := ⟨_, rfl⟩
    have hg5 : w4.grownBy w5 none := by rw [← hw5]; exact gb_alloc (gb_refl _ _) _
    rw [hw5] at hBb
    have hz5 : w5.heap.size = w4.heap.size + 1 := by rw [← hw5]; simp
    have hLb : Bls w5 w4.heap.size (some ⟨w4.heap.size, 0, none⟩) 5 5 none5 := Sl.own (own_of_blk (size := 1) (n := 5) hBb rfl (by omega) (Nat.le_refl _))
    have hBi := Blk.new w5 3 #[.int .i64 0, .int .i64 0, .int .i64 0, .int .i64 0, .int .i64 0]
    have hoi := own_of_blk (lo := w5.heap.size) (size := 1) (n := 5) hBi rfl (by omega) (Nat.le_refl _)
    have hg6 := gb_alloc (gb_refl w5 none) (.cells #[.int .i64 0, .int .i64 0, .int .i64 0, .int .i64 0, .int .i64 0] 3)
    have hmb' : (Instr.makeSlice 51 (.int .i64 5) (.int .i64 5)).run Try.prog w4 = .ok (.slice (some ⟨w4.heap.size, 0, none⟩) 5 5) w5 := by rw [← hw5]; exact hmb w4
    obtain ⟨G, hGe⟩ : ∃ G, w5.heap.size = G := ⟨_, rfl⟩
    have hmi' : (Instr.makeSlice 32 (.int .i64 5) (.int .i64 5)).run Try.prog w5 = .ok (.slice (some ⟨G, 0, none⟩) 5 5) (w5.alloc (.cells #[.int .i64 0, .int .i64 0, .int .i64 0, .int .i64 0, .int .i64 0] 3)) := by rw [hmi w5, hGe]
    rw [hGe] at hoi
    have hb5 := Recs.keep0 hb4 hg5
    have HGe := Lib.hid hGe
    have Hz5 := Lib.hid hz5
    have hoi' : (w5.alloc (.cells #[.int .i64 0, .int .i64 0, .int .i64 0, .int .i64 0, .int .i64 0] 3)).ownsRow G 3 1 (.slice (some ⟨G, 0, none⟩) 5 5) 5 ((fCounts none5 (pctEs (bs.take 0))).map (Value.int .i64)) := hoi
    clear hmb hmi hw5 hBb hBi hoi hz5 hGe
    go_wp2
    clear hmb' hmi'
    go_loopw [10, 11] (fun v10 i wr => ∃ (k : Nat) (s : Int), k ≤ n ∧ i = .int .i64 k ∧ v10 = .int .i64 s ∧ 0 ≤ s ∧ s ≤ 1188 * k ∧ w5.grownBy wr none ∧ wr.ownsRow G 3 1 (.slice (some ⟨G, 0, none⟩) 5 5) 5 ((fCounts none5 (pctEs (bs.take k))).map (Value.int .i64)) ∧ Hid (s = wsum pcWt (bs.take k))) (fun _ i _ => n - (intOf i).toNat)
    case atStart => exact ⟨0, 0, Nat.zero_le _, rfl, rfl, by omega, by omega, hg6, hoi', Lib.hid rfl⟩
    case round =>
      clear hoi' hg6
      obtain ⟨k, s, hk, rfl, rfl, hs0, hs1, hG, hown, hs⟩ := hrel
      rename World => wr
      by_cases hlt : k < n
      · obtain ⟨b, off, id, ps, A', c', rfl, hp, hps, l0, l1⟩ := Pcts.at_ hb5 hlt
        have hk' : (k : Int) < (n : Int) := by omega
        have hk0 : (0 : Int) ≤ (k : Int) := by omega
        have hmem := List.mem_of_getElem? hp.out
        have hpsok := hpo.out _ hmem
        have hwb := pcWt_bound hpsok
        have hpt : pTotal ps = pcWt (id, ps) := by rw [pTotal, if_pos hpsok]; rfl
        obtain ⟨X, hX⟩ : ∃ X, pcWt (id, ps) = X := ⟨_, rfl⟩
        have HX := Lib.hid hX
        rw [hX] at hpt hwb
        have hX0 : 0 ≤ X := hwb.1
        have hX1 : X ≤ 1188 := hwb.2
        have hfit : fitOK ps 5 = true := fit5 hpsok
        have hst : Hid (∀ c : Nat, sumF (isFirst none5 c) (pctEs (bs.take (k + 1))) = sumF (isFirst none5 c) (pctEs (bs.take k)) + sumF (isFirst none5 c) ps) := Lib.hid (fun c => by rw [pctEs_step hp.out, sumF_app])
        have hb2 : Hid (∀ c : Nat, 0 ≤ sumF (isFirst none5 c) ps ∧ sumF (isFirst none5 c) ps ≤ 1188) := Lib.hid (hbnd2.out _ hmem)
        have hwst : Hid (wsum pcWt (bs.take (k + 1)) = wsum pcWt (bs.take k) + X) := Lib.hid (by rw [take_succ_of hp.out, wsum_snoc, HX.out])
        obtain ⟨N, hN⟩ : ∃ N, ps.length = N := ⟨_, rfl⟩
        have hcT := Lib.hid (fun (x : World) (hx : w5.grownBy x none) => by
          have := c_impl_PilesTotal _ A' ps.length c' ps x (hps.keep0 hx) (Ht.out _ hmem)
          rw [hpt, hN] at this
          exact this)
        have hcF := c_FirstCounts _ _ A' (some ⟨w4.heap.size, 0, none⟩) ps.length c' 5 5 ps none5 wr (hps.keep0 hG) (Sl.keep0 hLb hG) (Ht.out _ hmem)
        rw [hN] at hcF
        rw [hN] at l1
        have Hl1' := Lib.hid l1
        have m1 := gb_cell hG l1 (by simp)
        have Hc := Lib.hid hcF
        have Hfit := Lib.hid hfit
        have HGr := Lib.hid (hown.lt G rfl).2
        clear hcF hps hpt hpsok hwb hX hN hfit hmem l0 l1 hp
        go_wp2_with fail
        refine Hc.out.mono ?_
        rintro e w6 ⟨D, q, rfl, hg6, ho6, hq5⟩
        obtain rfl : q = 5 := hq5 Hfit.out
        have hF6 : w6.ownsRow wr.heap.size 3 1 (.slice D 5 5) 5 ((fCounts none5 ps).map (Value.int .i64)) := by
          have h1 : fcRes ps none5 = fCounts none5 ps := by rw [fcRes]; exact if_pos Hfit.out
          rw [h1] at ho6
          exact ho6
        rw [show fitOK ps ((5 : Nat) : Int) = true from Hfit.out]
        have hG6 := gb_trans hG hg6
        have hown6 := own_below hown hg6
        have hI6 : Ints w6 wr.heap.size D 5 5 (fCounts none5 ps) := Sl.own hF6
        have Hz6 := Lib.hid hg6.size
        clear Hc ho6 hq5 hown hF6 m1
        go_wp2
        go_loopw [14] (fun i x => ∃ j : Nat, j ≤ 5 ∧ i = .int .i64 j ∧ Span G (G + 1) w6 x ∧ x.ownsRow G 3 1 (.slice (some ⟨G, 0, none⟩) 5 5) 5 ((((fCounts none5 (pctEs (bs.take (k + 1)))).take j) ++ (fCounts none5 (pctEs (bs.take k))).drop j).map (Value.int .i64))) (fun i _ => 5 - (intOf i).toNat)
        case atStart => exact ⟨0, Nat.zero_le _, rfl, Span.refl _ _ _, by rw [List.take_zero, List.drop_zero, List.nil_append]; exact hown6⟩
        case round =>
          clear hown6
          obtain ⟨j, hj, rfl, hSx, hownx⟩ := hrel
          rename World => x
          have hGx : w5.grownBy x none := gb_of_below ((gb_below hG6).trans (by rw [HGe.out]; exact hSx.below (by have := HGr.out; have := Hz6.out; omega))) none
          by_cases hjl : j < 5
          · have hj' : (j : Int) < 5 := by omega
            have hj0 : (0 : Int) ≤ (j : Int) := by omega
            obtain ⟨F, hF⟩ : ∃ F, sumF (isFirst none5 j) (pctEs (bs.take k)) = F := ⟨_, rfl⟩
            obtain ⟨Y, hY⟩ : ∃ Y, sumF (isFirst none5 j) ps = Y := ⟨_, rfl⟩
            have hFb := hbnd.out k j
            have hYb := hb2.out j
            rw [hF] at hFb
            rw [hY] at hYb
            have hF0 : 0 ≤ F := hFb.1
            have hF1 : F ≤ 7128 := hFb.2
            have hY0 : 0 ≤ Y := hYb.1
            have hY1 : Y ≤ 1188 := hYb.2
            have hold : (fCounts none5 (pctEs (bs.take k)))[j]? = some F := by rw [fCounts_at (by show j < 5; exact hjl), hF]
            have hnew : (fCounts none5 (pctEs (bs.take (k + 1))))[j]? = some (F + Y) := by rw [fCounts_at (by show j < 5; exact hjl), hst.out, hF, hY]
            have hxs : (fCounts none5 ps)[j]? = some Y := by rw [fCounts_at (by show j < 5; exact hjl), hY]
            have hl1 : (fCounts none5 (pctEs (bs.take (k + 1)))).length = 5 := fCounts_len _ _
            have hl2 : (fCounts none5 (pctEs (bs.take k))).length = 5 := fCounts_len _ _
            have htl : ((fCounts none5 (pctEs (bs.take (k + 1)))).take j).length = j := by rw [List.length_take, hl1]; omega
            have hcell : x.cell? ⟨G, j, none⟩ = some (.int .i64 F) := by
              rw [hownx.cellAt j (by omega), List.getElem?_map, List.getElem?_append_right (by omega), htl, Nat.sub_self, List.getElem?_drop, Nat.add_zero, hold]
              rfl
            have hset : Hid ((((fCounts none5 (pctEs (bs.take (k + 1)))).take j) ++ (fCounts none5 (pctEs (bs.take k))).drop j).set j (F + Y) = (fCounts none5 (pctEs (bs.take (k + 1)))).take (j + 1) ++ (fCounts none5 (pctEs (bs.take k))).drop (j + 1)) := Lib.hid (by
              rw [List.set_append_right _ _ (by omega), htl, Nat.sub_self, drop_cons' hold, List.set_cons_zero, take_succ_of hnew, List.append_assoc]
              rfl)
            have hIx : Ints x wr.heap.size D 5 5 (fCounts none5 ps) := Sl.span hI6 hSx HGr.out
            obtain ⟨bD, oD, z, rfl, hz, hcz⟩ := hIx.at_ hjl
            obtain rfl : z = Y := by
              have h1 := hz.out
              rw [hxs] at h1
              injection h1 with h1
              exact h1.symm
            have hadd : IntKind.i64.wrap (F + z) = F + z := IntWalk.i64_in _ (by omega)
            have HfK := Lib.hid (fun (y : World) (hy : x.grownBy y none) => (own_below hownx hy).frozenAt j)
            have HsK := Lib.hid (fun (y : World) (hy : x.grownBy y none) => show (y.setCell ⟨G, j, none⟩ (.int .i64 (F + z))).ownsRow G 3 1 (.slice (some ⟨G, 0, none⟩) 5 5) 5 (((fCounts none5 (pctEs (bs.take (k + 1)))).take (j + 1) ++ (fCounts none5 (pctEs (bs.take k))).drop (j + 1)).map (Value.int .i64)) ∧ y.grownBy (y.setCell ⟨G, j, none⟩ (.int .i64 (F + z))) (some G) from by
              rw [← hset.out, List.map_set]; exact (own_below hownx hy).stored j (.int .i64 (F + z)))
            clear hF hY hFb hYb hold hnew hxs hl1 hl2 htl hz hset hIx
            go_wp2_with fail
            refine wp_known_tail x [_, _, _, _, _, _, _, _, _, _, _, _] _ [.slice (some ⟨G, 0, none⟩) 5 5, .int .i64 j, .slice (some ⟨G, 0, none⟩) 5 5, .int .i64 j, .pointer (some ⟨G, j, none⟩), .int .i64 F, .slice (some ⟨bD, oD, none⟩) 5 5, .int .i64 j, .pointer (some ⟨bD, oD + j, none⟩), .int .i64 z, .int .i64 (F + z), .pointer (some ⟨G, j, none⟩)] rfl (gb_refl _ _) (by kernel_rfl) (by kernel_rfl) (by kernel_rfl) ?_ ?_
            · refine ⟨?_, ?_, ?_, ?_, ?_, ?_, ?_, ?_, ?_, ?_, ?_, ?_, trivial⟩
              all_goals
                intro nn u y hn hC hp
                simp [flowPreds, Region.binds, fKnown] at hp
                have n0 := gb_cell hC hcell (by simp)
                have n1 := gb_cell hC hcz (by simp)
                go_simp
              all_goals try exact ⟨gb_refl _ _, rfl⟩
            · intro u y hC hp'
              have e10 : u 10 = .int .i64 (F + z) := hp' 10 (by decide)
              have e11 : u 11 = .pointer (some ⟨G, j, none⟩) := hp' 11 (by decide)
              have hfy := HfK.out y hC
              have hsy := HsK.out y hC
              have n0 := gb_cell hC hcell (by simp)
              go_simp
              go_wp2
              go_roundw
              case rel => exact ⟨j + 1, by omega, by go_num, hSx.trans ((Span.of_gb hC _ _).trans (Span.of_row hsy.2 (fun g e => by injection e with e; omega))), hsy.1⟩
              case measure => simp [intOf]; omega
          · obtain rfl : j = 5 := by omega
            have hl1 : (fCounts none5 (pctEs (bs.take (k + 1)))).length = 5 := fCounts_len _ _
            have hl2 : (fCounts none5 (pctEs (bs.take k))).length = 5 := fCounts_len _ _
            rw [List.take_of_length_le (by omega), List.drop_of_length_le (by omega), List.append_nil] at hownx
            have m1 := gb_cell hGx Hl1'.out (by simp)
            clear hl1 hl2
            go_wp2_with fail
            refine (hcT.out _ hGx).mono ?_
            rintro e x1 ⟨rfl, hg7⟩
            have hown7 := own_below hownx hg7
            go_wp2
            go_roundw
            case rel => exact ⟨k + 1, s + X, by omega, by go_num, rfl, by omega, by omega, gb_trans hGx hg7, hown7, Lib.hid (by rw [hs.out, hwst.out])⟩
            case measure => simp [intOf]; omega
      · obtain rfl : k = n := by omega
        have htk : bs.take k = bs := List.take_of_length_le (by rw [hxl.out]; exact Nat.le_refl _)
        rw [htk] at hown
        have hsP : Hid (pTotal V = s) := Lib.hid (by rw [hptV.out, hs.out, htk])
        have hIc : Ints wr G (some ⟨G, 0, none⟩) 5 5 (fCounts none5 V) := by rw [hfcV.out]; exact Sl.own hown
        have hPV : Piles wr w1.heap.size B2 m c2 V := Sl.keep0 (Sl.own ho2_4) (gb_trans hg5 hG)
        have hcF := c_FirstCounts _ _ B2 (some ⟨w4.heap.size, 0, none⟩) m c2 5 5 V none5 wr hPV (Sl.keep0 hLb hG) hVt.out
        have Hc := Lib.hid hcF
        clear htk hown hcF
        go_wp2_with fail
        refine Hc.out.mono ?_
        rintro e w6 ⟨D, q, rfl, hg6, ho6, hq5⟩
        obtain rfl : q = 5 := hq5 hfitV.out
        have hF6 : w6.ownsRow wr.heap.size 3 1 (.slice D 5 5) 5 ((fCounts none5 V).map (Value.int .i64)) := by
          have h1 : fcRes V none5 = fCounts none5 V := by rw [fcRes]; exact if_pos hfitV.out
          rw [h1] at ho6
          exact ho6
        rw [show fitOK V ((5 : Nat) : Int) = true from hfitV.out]
        clear Hc ho6 hq5
        go_wp2_with fail
        refine (c_sameInts _ _ _ _ _ _ _ _ (fCounts none5 V) (fCounts none5 V) _ (Sl.own hF6) (Sl.keep0 hIc hg6)).mono ?_
        rintro e w7 ⟨rfl, d, rfl⟩
        have hg7 := gb_drewN (gb_refl w6 none) d
        go_wp2_with fail
        refine (c_impl_PilesTotal _ B2 m c2 V _ ((hPV.keep0 hg6).keep0 hg7) hVt.out).mono ?_
        rintro e w8 ⟨rfl, hg8⟩
        rw [hsP.out]
        go_wp2
        go_ret
        exact ⟨ret_bool (by simp), gb_below (gb_trans hG4 (gb_trans hg5 (gb_trans hG (gb_trans hg6 (gb_trans hg7 hg8)))))⟩
end Go.Proofs.Ytifmljckmjnpfaa.lawFnTotal
