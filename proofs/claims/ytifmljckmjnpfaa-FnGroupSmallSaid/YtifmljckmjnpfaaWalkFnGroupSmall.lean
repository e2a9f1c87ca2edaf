/-
  The walk of the law FnGroupSmall: groups are not joined without need.
-/
import Derived.Test.YtifmljckmjnpfaaGroupFacts
import Derived.Test.YtifmljckmjnpfaaPctGroupT
import Derived.Test.YtifmljckmjnpfaaTable
import Derived.Test.YtifmljckmjnpfaaDrawPct
namespace Go.Proofs.Ytifmljckmjnpfaa.lawFnGroupSmall
open Go.RowKit
set_option linter.unusedVariables false

attribute [local go_sem] flowAct flowOp_def flowUpon
set_option maxRecDepth 100000 in
set_option maxHeartbeats 4000000 in
theorem walk (a0 : Option Addr) (len0 cap0 : Nat) (w : World) (c0 : CodeArg w a0 len0 cap0) :
    Calls Try.prog 6 #[.slice a0 len0 cap0] w fun e w' => e = .returned (.bool true) ∧ Below w.heap.size w w' := by
  by_cases h0 : 1048576 < len0
  · go_enter Try.func6, Try.ntmps6
    go_wp2
    go_ret
    exact ⟨rfl, Below.refl _ _⟩
  go_enter Try.func6, Try.ntmps6
  go_wp2_with fail
  refine (c_DrawPrecinctsGroup _ _ _ _ c0).mono ?_
  rintro e w1 ⟨A, cap, bs, least, rfl, hb1, hl7, hsm, hg1⟩
  have Ht : Hid (∀ b ∈ bs, ∀ p ∈ b.2, p.1.size ≤ 2000000) := Lib.hid (fun b hb p hp => by have := (hsm b hb).2 p hp; omega)
  obtain ⟨n, hn⟩ : ∃ n, bs.length = n := ⟨_, rfl⟩
  have hxl := Lib.hid hn
  rw [hn] at hb1 hl7
  rw [hn]
  obtain ⟨V, hV⟩ : ∃ V, pgRes bs least = V := ⟨_, rfl⟩
  have HV := Lib.hid hV
  clear hn hV hsm c0
  have hVV : decide (V = V) = true := by simp
  go_wp2_with fail
  refine (c_impl_PrecinctsGroup _ A n cap bs least _ hb1 (by omega) Ht.out).mono ?_
  rintro e w2 ⟨B, m, c, h2, rfl, hg2, ho2⟩
  rw [HV.out] at ho2
  have hb2 := Recs.keep0 hb1 hg2
  have hG2 := gb_trans hg1 hg2
  go_wp2_with fail
  refine (c_spec_PrecinctsGroup _ A n cap bs least _ hb2 (by omega) Ht.out).mono ?_
  rintro e w3 ⟨B3, m3, c3, h3, rfl, hg3, ho3⟩
  rw [HV.out] at ho3
  have hG3 := gb_trans hG2 hg3
  have hI2 := ho2.irows.keep0 hg3
  have hVl := Lib.hid ho2.xlen
  obtain rfl : m3 = m := by have h1 := ho2.xlen; have h2 := ho3.xlen; omega
  have hbb := Recs.keep0 hb2 hg3
  go_wp2_with fail
  refine (c_sameTable _ _ _ _ _ _ _ _ V V _ hI2 ho3.irows).mono ?_
  rintro e w4 ⟨rfl, hg4⟩
  have hG4 := gb_trans hG3 hg4
  have hb4 := Recs.keep0 hbb hg4
  have hI4 := hI2.keep0 hg4
  have hI3 := ho3.irows.keep0 hg4
  have hlc := hb4.le
  have hcm := hb4.max
  have hlcT := hI4.le
  have hcmT := hI4.max
  clear ho2 ho3 hb1 hb2 hbb hG2 hG3 hI2
  by_cases hm0 : m3 = 0
  · subst hm0
    go_wp2_with fail
    refine (c_sameTable _ _ _ _ _ _ _ _ V V _ hI4 hI3).mono ?_
    rintro e w5 ⟨rfl, hg5⟩
    go_wp2
    go_ret
    exact ⟨rfl, gb_below (gb_trans hG4 hg5)⟩
  have hmb : ((m3 : Int) == 0) = false := by simp; omega
  have hgo := pg_ok (bs := bs) (least := least) (by rw [HV.out, hVl.out]; omega)
  obtain ⟨f1, f2⟩ := pGroups_flat hgo
  obtain ⟨g1, g2, g3⟩ := groupOK_pcts hgo
  have hpo := Lib.hid (pctsOK_piles g1)
  have hn6 : n ≤ 6 := by have := pctsOK_len g1; have := hxl.out; omega
  have Hrun := Lib.hid (fun (k : Nat) (g : List Pc) (hg : (pGroups bs least)[k]? = some g) => run_at2 f1 hg)
  have Hpg := Lib.hid (fun (k : Nat) (r : Row) (hr : V[k]? = some r) => pg_at (bs := bs) (least := least) (k := k) (r := r) (by rw [HV.out]; exact hr))
  have Hf1 := Lib.hid f1
  have hgsl : Hid ((pGroups bs least).length = m3) := Lib.hid (by rw [← hVl.out, ← HV.out, pgRes, List.length_map])
  have Hen := Lib.hid (fun (k : Nat) (g : List Pc) (hg : (pGroups bs least)[k]? = some g) (hk : k + 1 < m3) => by
    have hgg : g ∈ (pGroups bs least).dropLast := List.mem_iff_getElem?.2 ⟨k, by rw [List.getElem?_dropLast, if_pos (by rw [hgsl.out]; omega)]; exact hg⟩
    rw [pGroups, if_pos hgo] at hgg
    exact groups_small (by omega) g hgg)
  clear hI3 hgo f1 f2 g1
  go_wp2
  go_loopw [7, 8] (fun v7 i wr => ∃ (k F : Nat), k + 1 ≤ m3 ∧ F ≤ n ∧ i = .int .i64 k ∧ v7 = .int .i64 F ∧ w4.grownBy wr none ∧ Hid (((pGroups bs least).take k).flatten.length = F)) (fun _ i _ => m3 - (intOf i).toNat)
  case atStart => exact ⟨0, 0, by omega, Nat.zero_le _, rfl, rfl, gb_refl _ _, Lib.hid rfl⟩
  case round =>
    obtain ⟨k, F, hk, hFn, rfl, rfl, hG, hF⟩ := hrel
    rename World => wr
    have hm6 : m3 ≤ 6 := by
      have h1 := groups_len_le pcWt least bs
      have h2 := hgsl.out
      rw [pGroups] at h2
      split at h2
      · have := hxl.out; omega
      · simp at h2; omega
    by_cases hlt1 : k + 1 < m3
    · have hlt : k < m3 := by omega
      obtain ⟨bT, oT, r, A2, c2, rfl, hr, hI2, hcell⟩ := IRows.at_ (hI4.keep0 hG) hlt
      obtain ⟨g, hg, hrg⟩ := Hpg.out k r hr.out
      obtain ⟨r1, r2, r3⟩ := Hrun.out k g hg
      have hrl : r.length = g.length := by rw [hrg, List.length_map]
      rw [hxl.out, hF.out] at r1
      rw [hF.out] at r2 r3
      obtain ⟨q, hq⟩ : ∃ q, g.length = q := ⟨_, rfl⟩
      rw [hrl, hq] at hI2 hcell
      rw [hq] at r1 r3
      have Hq := Lib.hid hq
      have Hr2 := Lib.hid r2
      have Hr3 := Lib.hid r3
      have Hg := Lib.hid hg
      have hgb := Lib.hid (fun (b : Pc) (hb : b ∈ g) => hpo.out b (by rw [← Hf1.out]; exact List.mem_flatten.2 ⟨g, List.mem_of_getElem? hg, hb⟩))
      have hq6 : q ≤ 6 := by omega
      have hk' : (k : Int) < (m3 : Int) := by omega
      have hk0 : (0 : Int) ≤ (k : Int) := by omega
      clear hr hrg hrl hg hq r2 r3 hI2
      have hk1' : (k : Int) + 1 < (m3 : Int) := by omega
      go_wp2
      go_loopw [7, 9, 10] (fun v7 v9 i x => ∃ (j : Nat) (s : Int), j ≤ q ∧ i = .int .i64 j ∧ v7 = .int .i64 ((F + j : Nat) : Int) ∧ v9 = .int .i64 s ∧ 0 ≤ s ∧ s ≤ 1188 * j ∧ wr.grownBy x none ∧ Hid (s = wsum pcWt (g.dropLast.take j))) (fun _ _ i _ => q - (intOf i).toNat)
      case atStart => exact ⟨0, 0, Nat.zero_le _, rfl, by simp, rfl, by omega, by omega, gb_refl _ _, Lib.hid rfl⟩
      case round =>
        obtain ⟨j, s, hj, rfl, rfl, rfl, hs0, hs1, hGx, hs⟩ := hrel
        rename World => x
        have hcx := gb_cell hGx hcell (by simp)
        by_cases hjq : j < q
        · skip
          have hbj := Hr2.out j (by rw [Hq.out]; exact hjq)
          obtain ⟨b, off, id, ps, A', c', rfl, hp, hps, m0, m1⟩ := Pcts.at_ (k := F + j) (Recs.keep0 hb4 (gb_trans hG hGx)) (by omega)
          have hgj : Hid (g[j]? = some (id, ps)) := Lib.hid (by rw [← hbj]; exact hp.out)
          have hpsok := hgb.out _ (List.mem_of_getElem? hgj.out)
          have hwb := pcWt_bound hpsok
          have hpt : pTotal ps = pcWt (id, ps) := by rw [pTotal, if_pos hpsok]; rfl
          obtain ⟨X, hX⟩ : ∃ X, pcWt (id, ps) = X := ⟨_, rfl⟩
          have HX := Lib.hid hX
          rw [hX] at hpt hwb
          have hX0 : 0 ≤ X := hwb.1
          have hX1 : X ≤ 1188 := hwb.2
          obtain ⟨N, hN⟩ : ∃ N, ps.length = N := ⟨_, rfl⟩
          have hcall := c_impl_PilesTotal _ A' ps.length c' ps _ hps (Ht.out _ (List.mem_of_getElem? hp.out))
          rw [hpt, hN] at hcall
          rw [hN] at m1
          have Hc := Lib.hid hcall
          have hj' : (j : Int) < (q : Int) := by omega
          have hj0 : (0 : Int) ≤ (j : Int) := by omega
          obtain ⟨T, hT⟩ : ∃ T, F + j = T := ⟨_, rfl⟩
          have HT := Lib.hid hT
          rw [hT] at m0 m1
          rw [hT]
          have hTn : T < n := by omega
          have hTn' : (T : Int) < (n : Int) := by omega
          have hT0 : (0 : Int) ≤ (T : Int) := by omega
          clear hcall hps hpt hpsok hwb hX hN hbj hp hT
          by_cases hj1 : j + 1 < q
          · have hj1' : (j : Int) + 1 < (q : Int) := by omega
            have hdl : Hid (g.dropLast[j]? = some (id, ps)) := Lib.hid (by rw [List.getElem?_dropLast, if_pos (by rw [Hq.out]; omega)]; exact hgj.out)
            go_wp2_with fail
            refine Hc.out.mono ?_
            rintro e x1 ⟨rfl, hg6⟩
            clear Hc
            go_wp2
            go_roundw
            case rel => exact ⟨j + 1, s + X, by omega, by go_num, (by rw [show F + (j + 1) = T + 1 from by have := HT.out; omega]; simp), rfl, by omega, by omega, gb_trans hGx hg6, Lib.hid (by rw [wsum_take_step hdl.out, hs.out, HX.out])⟩
            case measure => simp [intOf]; omega
          · have hj1' : ¬ (j : Int) + 1 < (q : Int) := by omega
            have hdl : Hid (g.dropLast.take (j + 1) = g.dropLast.take j) := Lib.hid (by rw [List.take_of_length_le (by rw [List.length_dropLast, Hq.out]; omega), List.take_of_length_le (by rw [List.length_dropLast, Hq.out]; omega)])
            clear Hc
            go_wp2
            go_roundw
            case rel => exact ⟨j + 1, s, by omega, by go_num, (by rw [show F + (j + 1) = T + 1 from by have := HT.out; omega]; simp), rfl, by omega, by omega, hGx, Lib.hid (by rw [hdl.out, hs.out])⟩
            case measure => simp [intOf]; omega
        · obtain rfl : j = q := by omega
          have hsg : s = wsum pcWt g.dropLast := by rw [hs.out, List.take_of_length_le (by rw [List.length_dropLast, Hq.out]; omega)]
          have hge := Hen.out k g Hg.out hlt1
          rw [← hsg] at hge
          have hgd : decide (least ≤ s) = false := by simp; omega
          clear hsg
          go_wp2
          go_roundw
          case rel => exact ⟨k + 1, F + j, by omega, by omega, by go_num, rfl, gb_trans hG hGx, Lib.hid Hr3.out⟩
          case measure => simp [intOf]; omega
    · have hlt' : ¬ (k : Int) + 1 < (m3 : Int) := by omega
      go_wp2
      go_ret
      exact ⟨rfl, gb_below (gb_trans hG4 hG)⟩
end Go.Proofs.Ytifmljckmjnpfaa.lawFnGroupSmall
