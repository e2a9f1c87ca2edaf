/-
  The walk of the law FnGroup: each precinct is in one group.
-/
import Derived.Test.YtifmljckmjnpfaaGroupFacts
import Derived.Test.YtifmljckmjnpfaaPctGroupT
import Derived.Test.YtifmljckmjnpfaaTable
import Derived.Test.YtifmljckmjnpfaaDrawPct
namespace Go.Proofs.Ytifmljckmjnpfaa.lawFnGroup
open Go.RowKit
set_option linter.unusedVariables false

attribute [local go_sem] flowAct flowOp_def flowUpon
set_option maxRecDepth 100000 in
set_option maxHeartbeats 4000000 in
theorem walk (a0 : Option Addr) (len0 cap0 : Nat) (w : World) (c0 : CodeArg w a0 len0 cap0) :
    Calls Try.prog 4 #[.slice a0 len0 cap0] w fun e w' => e = .returned (.bool true) ∧ Below w.heap.size w w' := by
  by_cases h0 : 1048576 < len0
  · go_enter Try.func4, Try.ntmps4
    go_wp2
    go_ret
    exact ⟨rfl, Below.refl _ _⟩
  go_enter Try.func4, Try.ntmps4
  go_wp2_with fail
  refine (c_DrawPrecinctsGroup _ _ _ _ c0).mono ?_
  rintro e w1 ⟨A, cap, bs, least, rfl, hb1, hl7, hsm, hg1⟩
  have Ht : Hid (∀ b ∈ bs, ∀ p ∈ b.2, p.1.size ≤ 2000000) := Lib.hid (fun b hb p hp => by have := (hsm b hb).2 p hp; omega)
  obtain ⟨n, hn⟩ : ∃ n, bs.length = n := ⟨_, rfl⟩
  have hxl := Lib.hid hn
  rw [hn] at hb1 hl7
  rw [hn]
  obtain ⟨V, hV⟩ : ∃ V, pgRes bs least = V := ⟨_, rfl⟩
  have HV := Lib.hid hV
  clear hn hV hsm c0
  have hVV : decide (V = V) = true := by simp
  go_wp2_with fail
  refine (c_impl_PrecinctsGroup _ A n cap bs least _ hb1 (by omega) Ht.out).mono ?_
  rintro e w2 ⟨B, m, c, h2, rfl, hg2, ho2⟩
  rw [HV.out] at ho2
  have hb2 := Recs.keep0 hb1 hg2
  have hG2 := gb_trans hg1 hg2
  go_wp2_with fail
  refine (c_spec_PrecinctsGroup _ A n cap bs least _ hb2 (by omega) Ht.out).mono ?_
  rintro e w3 ⟨B3, m3, c3, h3, rfl, hg3, ho3⟩
  rw [HV.out] at ho3
  have hG3 := gb_trans hG2 hg3
  have hI2 := ho2.irows.keep0 hg3
  have hVl := Lib.hid ho2.xlen
  obtain rfl : m3 = m := by have h1 := ho2.xlen; have h2 := ho3.xlen; omega
  have hbb := Recs.keep0 hb2 hg3
  go_wp2_with fail
  refine (c_sameTable _ _ _ _ _ _ _ _ V V _ hI2 ho3.irows).mono ?_
  rintro e w4 ⟨rfl, hg4⟩
  have hG4 := gb_trans hG3 hg4
  have hb4 := Recs.keep0 hbb hg4
  have hI4 := hI2.keep0 hg4
  have hI3 := ho3.irows.keep0 hg4
  have hlc := hb4.le
  have hcm := hb4.max
  have hlcT := hI4.le
  have hcmT := hI4.max
  clear ho2 ho3 hb1 hb2 hbb hG2 hG3 hI2
  have hvp := c_spec_PrecinctsValid _ A n cap bs _ hb4 Ht.out
  obtain ⟨P, hP⟩ : ∃ P, pctsOK bs = P := ⟨_, rfl⟩
  rw [hP] at hvp
  have Hvp := Lib.hid hvp
  clear hvp hP
  go_wp2_with fail
  refine Hvp.out.mono ?_
  rintro e w5 ⟨rfl, hg5⟩
  clear Hvp
  have hG5 := gb_trans hG4 hg5
  have hb5 := Recs.keep0 hb4 hg5
  have hI5 := hI4.keep0 hg5
  have hI35 := hI3.keep0 hg5
  by_cases hPf : P = false
  · subst hPf
    go_wp2_with fail
    refine (c_sameTable _ _ _ _ _ _ _ _ V V _ hI5 hI35).mono ?_
    rintro e w6 ⟨rfl, hg6⟩
    go_wp2
    go_ret
    exact ⟨rfl, gb_below (gb_trans hG5 hg6)⟩
  have hPt : P = true := by simpa using hPf
  subst hPt
  by_cases hm0 : m3 = 0
  · subst hm0
    go_wp2_with fail
    refine (c_sameTable _ _ _ _ _ _ _ _ V V _ hI5 hI35).mono ?_
    rintro e w6 ⟨rfl, hg6⟩
    go_wp2
    go_ret
    exact ⟨rfl, gb_below (gb_trans hG5 hg6)⟩
  have hmb : ((m3 : Int) == 0) = false := by simp; omega
  have hgo := pg_ok (bs := bs) (least := least) (by rw [HV.out, hVl.out]; omega)
  obtain ⟨f1, f2⟩ := pGroups_flat hgo
  obtain ⟨g1, g2, g3⟩ := groupOK_pcts hgo
  have hpo := Lib.hid (pctsOK_piles g1)
  have hn6 : n ≤ 6 := by have := pctsOK_len g1; have := hxl.out; omega
  have Hrun := Lib.hid (fun (k : Nat) (g : List Pc) (hg : (pGroups bs least)[k]? = some g) => run_at2 f1 hg)
  have Hpg := Lib.hid (fun (k : Nat) (r : Row) (hr : V[k]? = some r) => pg_at (bs := bs) (least := least) (k := k) (r := r) (by rw [HV.out]; exact hr))
  have Hne := Lib.hid f2
  have Hfl : Hid (V.flatten = bs.map (·.1)) := Lib.hid (by rw [← HV.out]; exact pg_flat hgo)
  have Hvf : Hid (∀ k, (V.take k).flatten.length ≤ 6) := Lib.hid (fun k => by
    have h1 := congrArg List.length Hfl.out
    rw [List.length_map, hxl.out] at h1
    have h2 : V.flatten = (V.take k).flatten ++ (V.drop k).flatten := by rw [← List.flatten_append, List.take_append_drop]
    rw [h2, List.length_append] at h1
    omega)
  clear hI3 hI35 hgo f1 f2 g1
  have hz5 := hG5.size
  have hoA := own_empty w5 w5.heap.size 3 1 (Nat.le_refl _)
  go_wp2
  go_loopw [7, 8] (fun v7 i wr => ∃ (k L : Nat) (D : Option Addr) (d : Nat), k ≤ m3 ∧ i = .int .i64 k ∧ v7 = .slice D L d ∧ L ≤ 6 ∧ w5.grownBy wr none ∧ wr.ownsRow w5.heap.size 3 1 (.slice D L d) L ((V.take k).flatten.map (Value.int .i64))) (fun _ i _ => m3 - (intOf i).toNat)
  case atStart => exact ⟨0, 0, _, 0, Nat.zero_le _, rfl, rfl, Nat.zero_le _, gb_alloc (gb_refl _ _) _, hoA⟩
  case round =>
    clear hoA
    obtain ⟨k, L, D, d, hk, rfl, rfl, hL6, hG, hown⟩ := hrel
    rename World => wr
    by_cases hlt : k < m3
    · have hk' : (k : Int) < (m3 : Int) := by omega
      have hk0 : (0 : Int) ≤ (k : Int) := by omega
      obtain ⟨bT, oT, r, A2, c2, rfl, hr, hI2, hcell⟩ := IRows.at_ (hI5.keep0 hG) hlt
      obtain ⟨g, hg, hrg⟩ := Hpg.out k r hr.out
      have hgp : 0 < r.length := by rw [hrg, List.length_map]; exact List.length_pos_iff.2 (Hne.out g (List.mem_of_getElem? hg))
      have hLs : Hid ((V.take (k + 1)).flatten.length = L + r.length) := Lib.hid (by
        have h1 := hown.1
        rw [List.length_map] at h1
        rw [take_succ_of hr.out, List.flatten_append, List.length_append, h1]
        simp)
      have hL7 : L + r.length ≤ 6 := by rw [← hLs.out]; exact Hvf.out (k + 1)
      have hst : Hid ((V.take (k + 1)).flatten = (V.take k).flatten ++ r) := Lib.hid (by rw [take_succ_of hr.out, List.flatten_append]; simp)
      obtain ⟨q, hq⟩ : ∃ q, r.length = q := ⟨_, rfl⟩
      rw [hq] at hI2 hcell hgp hL7
      have hqb : ((q : Int) == 0) = false := by simp; omega
      have hzr := hG.size
      have Hr := hr
      clear hg hrg hr hq
      go_wp2_with (at_builtin; refine wpList_appAll intE1 rfl _ _ rfl w5.heap.size _ L q c2 _ _ _ A2 rfl hown rfl hI2 int_one (by omega) (by omega) hzr ?_; intro D' d' w6 hown6 hb6 hg6 hat6)
      go_roundw
      case rel => exact ⟨k + 1, L + q, D', d', by omega, by go_num, rfl, hL7, gb_of_below ((gb_below hG).trans hb6) none, by rw [hst.out, List.map_append]; exact hown6⟩
      case measure => simp [intOf]; omega
    · obtain rfl : k = m3 := by omega
      have hLn : L = n := by
        have h1 := hown.1
        rw [List.take_of_length_le (by rw [hVl.out]; exact Nat.le_refl _), Hfl.out, List.length_map, List.length_map, hxl.out] at h1
        omega
      have hIa : Ints wr w5.heap.size D L d (bs.map (·.1)) := by
        rw [List.take_of_length_le (by rw [hVl.out]; exact Nat.le_refl _), Hfl.out] at hown
        exact Sl.own hown
      subst hLn
      have hla := Sl.le hIa
      have hma := Sl.max hIa
      have hbr := Recs.keep0 hb5 hG
      clear hown hI5
      go_wp2
      go_loopw [9] (fun i x => ∃ k : Nat, k ≤ L ∧ i = .int .i64 k ∧ wr.grownBy x none) (fun i _ => L - (intOf i).toNat)
      case atStart => exact ⟨0, Nat.zero_le _, rfl, gb_refl _ _⟩
      case round =>
        obtain ⟨j, hj, rfl, hGx⟩ := hrel
        rename World => x
        by_cases hjl : j < L
        · have hj' : (j : Int) < (L : Int) := by omega
          have hj0 : (0 : Int) ≤ (j : Int) := by omega
          have hjd : decide ((L : Int) ≤ (j : Int)) = false := by simp; omega
          have hjd2 : decide (L ≤ j) = false := by simp; omega
          obtain ⟨b, off, id, ps, A', c', rfl, hp, hps, m0, m1⟩ := Pcts.at_ (Recs.keep0 hbr hGx) hjl
          obtain ⟨b2, o2, z, rfl, hz, hcz⟩ := Ints.at_ (Sl.keep0 hIa hGx) hjl
          obtain rfl : z = id := by
            have h1 := hz.out
            rw [List.getElem?_map, hp.out] at h1
            injection h1 with h1
            exact h1.symm
          have hzz : (z != z) = false := by simp
          clear hps hp hz m1
          go_wp2_with fail
          refine wp_known x [.int .i64 j, .slice (some ⟨b, off, none⟩) L cap, .int .i64 L, .bool false, .bool false, .slice (some ⟨b2, o2, none⟩) L d, .int .i64 j, .pointer (some ⟨b2, o2 + j, none⟩), .int .i64 z, .slice (some ⟨b, off, none⟩) L cap, .int .i64 j, .pointer (some ⟨b, off + j * 2, none⟩), .pointer (some ⟨b, off + j * 2, none⟩), .int .i64 z, .bool false, .bool false] (gb_refl _ _) (by kernel_rfl) (by kernel_rfl) ?_ ?_
          · refine ⟨?_, ?_, ?_, ?_, ?_, ?_, ?_, ?_, ?_, ?_, ?_, ?_, ?_, ?_, ?_, ?_, trivial⟩
            all_goals
              intro nn u y hn hC hp
              simp [flowPreds, Region.binds, fKnown] at hp
              have n0 := gb_cell hC m0 (by simp)
              have n1 := gb_cell hC hcz (by simp)
              go_simp
            all_goals try exact ⟨gb_refl _ _, rfl⟩
          · intro u y hC hp'
            have e1 : u 15 = .bool false := hp' 15 (by decide)
            go_simp
            go_wp2
            go_roundw
            case rel => exact ⟨j + 1, by omega, by go_num, gb_trans hGx hC⟩
            case measure => simp [intOf]; omega
        · obtain rfl : j = L := by omega
          go_wp2
          go_ret
          exact ⟨ret_bool (by simp), gb_below (gb_trans hG5 (gb_trans hG hGx))⟩
end Go.Proofs.Ytifmljckmjnpfaa.lawFnGroup
