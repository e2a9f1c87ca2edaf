/-
  PrecinctsPublish of the program.
-/
import Derived.Test.YtifmljckmjnpfaaPubLaw
import Derived.Test.YtifmljckmjnpfaaPctKit
namespace Go.Proofs.Ytifmljckmjnpfaa
open Go.RowKit
set_option linter.unusedVariables false

theorem grp_small {bs : List Pc} {least : Int} {g : List Pc} (h : groupOK bs least = true) (hg : g ∈ pGroups bs least) : (∀ x ∈ g, x ∈ bs) ∧ Small (pctEs g) ∧ (pctEs g).length ≤ 72 ∧ 0 < g.length ∧ g.length ≤ 6 := by
  obtain ⟨f1, f2⟩ := pGroups_flat h
  obtain ⟨h1, h2, h3⟩ := groupOK_pcts h
  have hm : ∀ x ∈ g, x ∈ bs := fun x hx => by rw [← f1]; exact List.mem_flatten.2 ⟨g, hg, hx⟩
  have hl : g.length ≤ 6 := by
    have h4 := groups_len_le pcWt least bs
    have h5 := pctsOK_len h1
    rw [pGroups, if_pos h] at hg
    have := h4.2 g hg
    omega
  obtain ⟨s1, s2⟩ := pcts_small (bs := g) (fun b hb => pctsOK_piles h1 b (hm b hb)) hl
  exact ⟨hm, s1, s2, List.length_pos_iff.2 (f2 g hg), hl⟩

set_option maxHeartbeats 4000000 in
theorem c_impl_PrecinctsPublish (lo : Nat) (A : Option Addr) (n cap : Nat) (bs : List Pc) (least : Int) (w : World) (h : Pcts w lo A n cap bs) (hlo : lo ≤ w.heap.size) (hn : n ≤ 2000000) (hs : ∀ b ∈ bs, ∀ p ∈ b.2, p.1.size ≤ 2000000) :
    Calls Try.prog 40 #[.slice A n cap, .int .i64 least] w (PctsOkRes (pubRes bs least) (pubOK bs least) w) := by
  have Hs := Lib.hid hs
  have hc := Lib.hid (fun (x : World) (hx : w.grownBy x none) => c_precinctGroups lo A n cap bs least x (Recs.keep0 h hx) hn hs)
  clear hs
  obtain ⟨V, hV⟩ : ∃ V, pctsOK bs = V := ⟨_, rfl⟩
  have HV := Lib.hid hV
  clear hV
  have hvp := fun (x : World) (hx : w.grownBy x none) => c_impl_PrecinctsValid lo A n cap bs x (Recs.keep0 h hx) Hs.out
  rw [HV.out] at hvp
  have Hvp := Lib.hid hvp
  clear hvp
  by_cases hgo : groupOK bs least = true
  case neg =>
    have hbad : pubOK bs least = false := by unfold pubOK; rw [Bool.eq_false_iff.2 hgo]; rfl
    have hres : pubRes bs least = [] := by unfold pubRes; rw [hbad]; rfl
    have Hbad := Lib.hid hbad
    have Hres := Lib.hid hres
    have hfin : Hid (∀ w' : World, w.grownBy w' none → PctsOkRes (pubRes bs least) (pubOK bs least) w (.returned (.tuple #[.slice none 0 0, .bool false])) w') := Lib.hid (fun w' hg => ⟨none, 0, [], by rw [Hbad.out, Hres.out]; rfl, hg, by rw [Hres.out]; exact OwnRecs.nil _ _ _ _ _ _⟩)
    clear hbad hres
    cases V with
    | false =>
      go_enter Try.func40, Try.ntmps40
      go_wp2_with fail
      refine (Hvp.out _ (gb_refl _ _)).mono ?_
      rintro e w1 ⟨rfl, hg1⟩
      go_wp2
      go_ret2
      exact hfin.out _ hg1
    | true =>
      by_cases hL1 : least < 1
      · go_enter Try.func40, Try.ntmps40
        go_wp2_with fail
        refine (Hvp.out _ (gb_refl _ _)).mono ?_
        rintro e w1 ⟨rfl, hg1⟩
        go_wp2
        go_ret2
        exact hfin.out _ hg1
      have hL1' : 1 ≤ least := by omega
      by_cases hL2 : 99 < least
      · go_enter Try.func40, Try.ntmps40
        go_wp2_with fail
        refine (Hvp.out _ (gb_refl _ _)).mono ?_
        rintro e w1 ⟨rfl, hg1⟩
        go_wp2
        go_ret2
        exact hfin.out _ hg1
      exact absurd (by unfold groupOK; rw [HV.out]; simp [inB]; omega) hgo
  case pos =>
    obtain ⟨g1, g2, g3⟩ := groupOK_pcts hgo
    rw [HV.out] at g1
    subst g1
    have hL1 : ¬ least < 1 := by omega
    have hL2 : ¬ 99 < least := by omega
    have hgs6 : (pGroups bs least).length ≤ 6 := by
      have h4 := groups_len_le pcWt least bs
      have h5 := pctsOK_len HV.out
      rw [pGroups, if_pos hgo]
      omega
    have Hsm := Lib.hid (fun (g : List Pc) (hg : g ∈ pGroups bs least) => grp_small hgo hg)
    have hok : pubOK bs least = pubAll (pGroups bs least) := by unfold pubOK; rw [hgo]; rfl
    have hres : pubRes bs least = if pubAll (pGroups bs least) then (pGroups bs least).map pubG else [] := by unfold pubRes; rw [hok]; rfl
    obtain ⟨gs, hgs⟩ : ∃ gs, pGroups bs least = gs := ⟨_, rfl⟩
    rw [hgs] at hc hok hres hgs6 Hsm
    have Hok := Lib.hid hok
    have Hres := Lib.hid hres
    clear hok hres hgs hgo h
    go_enter Try.func40, Try.ntmps40
    go_wp2_with fail
    refine (Hvp.out _ (gb_refl _ _)).mono ?_
    rintro e w0 ⟨rfl, hg0⟩
    clear Hvp
    go_wp2_with fail
    refine (hc.out _ hg0).mono ?_
    rintro e w1 ⟨B, m, c, vs, rfl, hg1, hownv, hvs⟩
    have Hvs := Lib.hid hvs
    have Hml : Hid (gs.length = m) := Lib.hid (by have h1 := hownv.1; have h2 := hvs.1; omega)
    have hml : m ≤ 6 := by have := Hml.out; omega
    have hvl : vs.length = m := by have h1 := hownv.1; omega
    have hlc := (Sl.own hownv).le
    have hcm := (Sl.own hownv).max
    have hG1 := gb_trans hg0 hg1
    clear hc hvs
    go_wp2
    go_loopw [6, 26] (fun v6 i wr => ∃ (k : Nat) (D : Option Addr) (d : Nat) (hs : List Hd), k ≤ m ∧ i = .int .i64 k ∧ v6 = .slice D k d ∧ w1.grownBy wr none ∧ OwnRecs pcRec 66 35 wr w1.heap.size wr.heap.size D k d ((gs.take k).map pubG) hs ∧ Hid (pubAll (gs.take k) = true)) (fun _ i _ => m - (intOf i).toNat)
    case atStart => exact ⟨0, _, _, [], Nat.zero_le _, rfl, rfl, gb_refl _ _, OwnRecs.nil _ _ _ _ _ _, Lib.hid rfl⟩
    case round =>
      obtain ⟨k, D, d, hs, hk, rfl, rfl, hG, hrecs, hall⟩ := hrel
      rename World => wr
      by_cases hlt : k < m
      · have hk' : (k : Int) < (m : Int) := by omega
        have hk0 : (0 : Int) ≤ (k : Int) := by omega
        obtain ⟨gB, rfl, hgB0, hgB1⟩ := own_addr2 hownv (by omega)
        obtain ⟨g, hgk⟩ : ∃ g, gs[k]? = some g := ⟨gs[k]'(by rw [Hml.out]; exact hlt), List.getElem?_eq_getElem _⟩
        obtain ⟨A2, n2, c2, hv2, hP2⟩ := Hvs.out.2 k _ g (List.getElem?_eq_getElem (by omega)) hgk
        have hownr := own_below hownv hG
        have hcell : wr.cell? ⟨gB, k, none⟩ = some (.slice A2 n2 c2) := by
          rw [hownr.cellAt k (by omega), ← hv2]
          exact List.getElem?_eq_getElem (by omega)
        have Hgk := Lib.hid hgk
        obtain ⟨s1, s2, s3, s4, s5⟩ := Hsm.out g (List.mem_of_getElem? hgk)
        have hn2 : g.length = n2 := hP2.len
        have hPr := Recs.keep0 hP2 (gb_trans hg1 hG)
        have hlc2 := hPr.le
        have hcm2 := hPr.max
        have hn0 : 0 < n2 := by omega
        have hcall := c_precinctPiles lo A2 n2 c2 g wr hPr (Nat.le_trans hlo (Nat.le_trans hG1.size hG.size)) (by omega) s2 (by omega) (fun b hb => Hs.out b (s1 b hb))
        obtain ⟨O, hO⟩ : ∃ O, sumOK (pctEs g) = O := ⟨_, rfl⟩
        have HO := Lib.hid hO
        rw [hO] at hcall
        have Hc := Lib.hid hcall
        have hall' : Hid (pubAll (gs.take (k + 1)) = O) := Lib.hid (by
          rw [pubAll, take_succ_of hgk, List.all_append, show (gs.take k).all (fun g => pilesOK (canon (pctEs g))) = true from hall.out, ← hO]
          simp [sumOK])
        have hsr : sumRes (pctEs g) = if O then canon (pctEs g) else [] := by unfold sumRes; rw [hO]
        have Hsr := Lib.hid hsr
        obtain ⟨X, hX⟩ : ∃ X, sumRes (pctEs g) = X := ⟨_, rfl⟩
        rw [hX] at Hc Hsr
        obtain ⟨N, hN⟩ : ∃ N, X.length = N := ⟨_, rfl⟩
        have HN := Lib.hid hN
        rw [show PilesOkRes X O wr = fun e w' => ∃ B c, e = .returned (.tuple #[.slice B N c, .bool O]) ∧ wr.grownBy w' none ∧ w'.ownsRow wr.heap.size 66 2 (.slice B N c) N (cellsOf plCells X) from by rw [← hN]; rfl] at Hc
        obtain ⟨b, off, id, ps, A', c', rfl, hp, hps, m0, m1⟩ := Pcts.at_ (k := 0) hPr hn0
        rw [Nat.zero_mul, Nat.add_zero] at m0 m1
        have hpub : Hid (O = true → pubG g = (id, X)) := Lib.hid (fun e => by
          have hp := hp.out
          cases g with
          | nil => simp at hp
          | cons y g =>
            simp at hp
            subst hp
            rw [Hsr.out, e]
            rfl)
        clear hcall hO hX hN hsr hPr hP2 hv2 hownr s1 s2 s3 s4 s5 hgk hps
        go_wp2_with fail
        refine Hc.out.mono ?_
        rintro e w2 ⟨B3, c3, rfl, hg2, ho2⟩
        clear Hc
        cases O with
        | false =>
          have hbad : pubAll gs = false := by
            have h1 : gs = gs.take (k + 1) ++ gs.drop (k + 1) := (List.take_append_drop _ _).symm
            rw [h1]
            unfold pubAll
            rw [List.all_append, show (gs.take (k + 1)).all (fun g => pilesOK (canon (pctEs g))) = false from hall'.out]
            rfl
          have Hbad := Lib.hid hbad
          clear hbad
          go_wp2
          go_ret2
          exact ⟨none, 0, [], by rw [Hok.out, Hres.out, Hbad.out]; rfl, gb_trans hG1 (gb_trans hG hg2), by rw [Hres.out, Hbad.out]; exact OwnRecs.nil _ _ _ _ _ _⟩
        | true =>
          have hGx := gb_trans hG hg2
          have hr2 := hrecs.keep hg2
          have n0 := gb_cell hg2 m0 (by simp)
          have hz2 := hGx.size
          have Hz := Lib.hid hG.size
          have Hz2 := Lib.hid hg2.size
          clear m0 m1 hrecs
          go_wp2_with (at_builtin; refine wpList_app pctE rfl _ _ rfl w1.heap.size k _ _ rfl hr2.row [_, _] rfl rfl (by simp [Value.oneCell']) (by omega) (by omega) hz2 ?_; intro D' d' w3 hown3 hb3 hg3 hat3)
          have hpush := hr2.push (x := (id, X)) (d := (B3, c3)) (by show World.ownsRow _ _ _ _ (.slice B3 X.length c3) X.length (cellsOf plCells X); rw [HN.out]; exact ho2) Hz.out (by rw [show pcRec.cells ((id, X), (B3, c3)) = [.int .i64 id, .slice B3 N c3] from by rw [← HN.out]; rfl]; exact hown3) hg3 hat3 Hz2.out
          go_roundw
          case rel => exact ⟨k + 1, D', d', _, by omega, by go_num, rfl, gb_of_below ((gb_below hGx).trans hb3) none, by rw [take_succ_of Hgk.out, List.map_append, List.map_singleton, hpub.out (by first | rfl | trivial)]; exact hpush, hall'⟩
          case measure => simp [intOf]; omega
      · obtain rfl : k = m := by omega
        have htk : Hid (gs.take k = gs) := Lib.hid (List.take_of_length_le (by rw [Hml.out]; exact Nat.le_refl _))
        have hal : Hid (pubAll gs = true) := Lib.hid (by rw [← htk.out]; exact hall.out)
        rw [htk.out] at hrecs
        have hrl : Hid (pubRes bs least = gs.map pubG) := Lib.hid (by rw [Hres.out, hal.out, if_pos rfl])
        go_wp2
        go_ret2
        exact ⟨D, d, hs, by rw [Hok.out, hal.out, hrl.out, List.length_map, Hml.out]; rfl, gb_trans hG1 hG, by rw [hrl.out, List.length_map, Hml.out]; exact hrecs.wide hG1.size (Nat.le_refl _)⟩
end Go.Proofs.Ytifmljckmjnpfaa
