/-
  Drawn precincts: spec.l92Precincts, spec.l92Least.
-/
import Derived.Test.YtifmljckmjnpfaaDrawPiles
import Derived.Test.YtifmljckmjnpfaaPctKit
namespace Go.Proofs.Ytifmljckmjnpfaa
open Go.RowKit
set_option linter.unusedVariables false

/-- Other piles for a record: what a store of their slice leaves. -/
theorem ListRecs.setHd {α : Type} {R : Rec α} {t : TypeId} {w : World} {lo L n cap : Nat} {A : Option Addr} {xs : List α} {hs : List Hd} (h : ListRecs R t w lo L A n cap xs hs) {g k : Nat} (hA : A = some ⟨g, 0, none⟩) {x x' : α} {d : Hd} (hx : xs[k]? = some x) (hf : R.fields x' = R.fields x)
    (hp : Piles w lo d.1 (R.piles x').length d.2 (R.piles x')) (hap : 0 < (R.piles x').length → ∀ b, d.1 = some b → b.block ≠ g) :
    ListRecs R t (w.setCell ⟨g, k * (R.own + 1) + R.own, none⟩ (.slice d.1 (R.piles x').length d.2)) lo L A n cap (xs.set k x') (hs.set k d) ∧ w.grownBy (w.setCell ⟨g, k * (R.own + 1) + R.own, none⟩ (.slice d.1 (R.piles x').length d.2)) (some g) := by
  subst hA
  obtain ⟨hst, hgs⟩ := h.row.stored (k * (R.own + 1) + R.own) (.slice d.1 (R.piles x').length d.2)
  have hkx : k < xs.length := (List.getElem?_eq_some_iff.1 hx).1
  have hkh : k < hs.length := by rw [h.len]; exact hkx
  have hh : hs[k]? = some hs[k] := List.getElem?_eq_getElem hkh
  have hz : (xs.zip hs)[k]? = some (x, hs[k]) := by rw [List.getElem?_zip_eq_some]; exact ⟨hx, hh⟩
  have hzs : (xs.set k x').zip (hs.set k d) = (xs.zip hs).set k (x', d) := by
    apply List.ext_getElem?
    intro j
    by_cases hj : j = k
    · subst hj
      rw [List.getElem?_set_self (by rw [List.length_zip, h.len]; omega), List.getElem?_zip_eq_some]
      exact ⟨List.getElem?_set_self hkx, List.getElem?_set_self hkh⟩
    · rw [List.getElem?_set_ne (fun e => hj e.symm)]
      simp only [List.zip, List.getElem?_zipWith, List.getElem?_set_ne (fun e => hj (Eq.symm e))]
  have hold : ∀ (i : Nat) (y : α) (e : Hd), (xs.set k x')[i]? = some y → (hs.set k d)[i]? = some e → Piles w lo e.1 (R.piles y).length e.2 (R.piles y) ∧ (0 < (R.piles y).length → ∀ b, e.1 = some b → b.block ≠ g) := by
    intro i y e hy he
    by_cases hik : i = k
    · subst hik
      rw [List.getElem?_set_self hkx] at hy
      rw [List.getElem?_set_self hkh] at he
      injection hy with hy
      injection he with he
      subst hy he
      exact ⟨hp, hap⟩
    · rw [List.getElem?_set_ne (fun e => hik e.symm)] at hy he
      exact ⟨h.piles i y e hy he, fun hn b hb e2 => h.apart i y e hy he hn b hb (by rw [e2]; rfl)⟩
  refine ⟨⟨by simp [h.len], ?_, fun i y e hy he => ?_, fun i y e hy he hn b hb e2 => ?_⟩, hgs⟩
  · rw [hzs, cellsOf_set (j := R.own) (u := .slice d.1 (R.piles x').length d.2) R.cells_len hz (by omega) (by
      show R.fields x' ++ _ = (R.fields x ++ _).set R.own _
      rw [List.set_append_right _ _ (by rw [R.flen]; exact Nat.le_refl _), R.flen, Nat.sub_self, hf]
      rfl)]
    exact hst
  · obtain ⟨o1, o2⟩ := hold i y e hy he
    refine ⟨o1.1, o1.2.1, o1.2.2.1, fun hn => ?_⟩
    obtain ⟨b, off, e1, hl, hb, hc⟩ := o1.2.2.2 hn
    exact ⟨b, off, e1, hl, Nat.lt_of_lt_of_le hb hgs.size, fun j u hu => gb_cell hgs (hc j u hu) (fun e2 => by injection e2 with e2; exact o2 hn _ e1 e2)⟩
  · obtain ⟨o1, o2⟩ := hold i y e hy he
    injection e2 with e2
    exact o2 hn b hb e2.symm

/-- What drawn precincts are. -/
def PctsRes (R m : Nat) (w : World) (e : Ending) (w' : World) : Prop :=
  ∃ A c bs, e = .returned (.slice A bs.length c) ∧ Pcts w' w.heap.size A bs.length c bs ∧ bs.length ≤ 7 ∧ (∀ b ∈ bs, SmallPls b.2) ∧ Rdr w' R (m + 30000) ∧ w.grownBy w' (some R)

set_option maxHeartbeats 4000000 in
theorem c_l92Precincts (R m : Nat) (w : World) (h : Rdr w R m) (hm : m ≤ 700000) :
    Calls Try.prog 44 #[.pointer (some ⟨R, 0, none⟩)] w (PctsRes R m w) := by
  have hRl := h.lt
  have hRa : Rdr (w.alloc (.cells #[] 35)) R m := h.grown (gb_alloc (gb_refl _ none) _) (by simp)
  have hga := gb_alloc (gb_refl w (some R)) (.cells #[] 35)
  have hLa := ListRecs.empty pcRec 35 w w.heap.size w.heap.size (Nat.le_refl _)
  go_enter Try.func44, Try.ntmps44
  go_wp2_with fail
  refine (c_pick _ _ _ _ hRa (by omega) (by omega) (by omega)).mono ?_
  rintro e w1 ⟨n1, hn1, rfl, hR1, hg1, hz1⟩
  have hn6 : n1 ≤ 6 := by omega
  have hG1 := gb_trans hga hg1
  have hL1 := hLa.keepR hg1 hRl hRl
  clear hLa hga hRa hg1 hz1
  go_wp2
  go_loopw [3, 5] (fun v i wr => ∃ (k : Nat) (B : Option Addr) (c : Nat) (zs : List Pc) (hs : List Hd), k ≤ n1 ∧ i = .int .i64 (k : Int) ∧ v = .slice B k c ∧ w.grownBy wr (some R) ∧ Rdr wr R (m + 1 + 150 * k) ∧ ListRecs pcRec 35 wr w.heap.size w.heap.size B k c zs hs ∧ Hid (∀ b ∈ zs, SmallPls b.2)) (fun _ i _ => n1 - (intOf i).toNat)
  case atStart => exact ⟨0, _, _, [], [], Nat.zero_le _, rfl, rfl, hG1, hR1.mono (by omega), hL1, Lib.hid (by intro b hb; cases hb)⟩
  case round =>
    obtain ⟨k, B, c, zs, hs, hk, rfl, rfl, hG, hR, hL, hz⟩ := hrel
    rename World => wr
    clear hL1 hR1 hG1
    have hzl := Lib.hid hL.xlen
    have hRw := hR.lt
    by_cases hlt : k < n1
    · have hlt' : (k : Int) < (n1 : Int) := by omega
      have hga := gb_alloc (gb_refl wr (some R)) (.cells #[] 66)
      have hRa : Rdr (wr.alloc (.cells #[] 66)) R (m + 1 + 150 * k) := hR.grown (gb_alloc (gb_refl _ none) _) (by simp)
      have hoa := own_empty wr wr.heap.size 66 2 (Nat.le_refl _)
      go_wp2_with fail
      refine (c_pick _ _ _ _ hRa (by omega) (by omega) (by omega)).mono ?_
      rintro e w2 ⟨mn, hmn, rfl, hR2, hg2, hz2⟩
      have hmn4 : mn ≤ 3 := by omega
      have hG2 := gb_trans hga hg2
      have ho2 := own_keepR hoa hg2 hRw
      clear hga hRa hoa hg2 hz2
      go_wp2
      go_loopw [6, 8] (fun v i x => ∃ (q N : Nat) (P : Option Addr) (c' : Nat) (ps : List Pl), q ≤ mn ∧ N ≤ 12 ∧ i = .int .i64 (q : Int) ∧ v = .slice P N c' ∧ wr.grownBy x (some R) ∧ Rdr x R (m + 1 + 150 * k + 1 + 31 * q) ∧ x.ownsRow wr.heap.size 66 2 (.slice P N c') N (cellsOf plCells ps) ∧ Hid (ps.length = N) ∧ Hid (∀ p ∈ ps, p.1.size ≤ 100)) (fun _ i _ => mn - (intOf i).toNat)
      case atStart => exact ⟨0, 0, _, _, [], Nat.zero_le _, Nat.zero_le _, rfl, rfl, hG2, hR2, ho2, Lib.hid rfl, Lib.hid (by intro p hp; cases hp)⟩
      case round =>
        obtain ⟨q, N, P, c', ps, hq, hN12, rfl, rfl, hGx, hRx, hown, hl, hzp⟩ := hrel
        clear ho2 hG2 hR2
        by_cases hlt : q < mn
        · have hlt' : (q : Int) < (mn : Int) := by omega
          rename World => x
          have hwx := hGx.size
          have hsz := Lib.hid (show SmallPls ps from ⟨by have := hl.out; omega, hzp.out⟩)
          go_wp2_with fail
          refine (c_l91Ballot R _ 2 _ hRx (by omega) (by omega) (by omega)).mono ?_
          rintro e x1 ⟨A1, c1, xs, rfl, hoB, hall, hxs, hR3, hg3, hz3⟩
          have hI := Sl.own hoB
          have hg3' := hg3
          have hown3 := own_keepR hown hg3 hRw
          have hG3 := gb_trans hGx hg3
          have htx := Lib.hid (ballotText_size xs hxs)
          clear hoB hall hz3 hg3 hown
          go_wp2_with fail
          refine (c_spec_BallotText _ A1 xs.length c1 xs _ hI (by omega)).mono ?_
          rintro e x2 ⟨rfl, d, rfl⟩
          have hown4 := own_drewN hown3 d
          have hG4 := gb_drewN hG3 d
          have hR4 := hR3.grown (gb_drewN (gb_refl x1 none) d) (by simp)
          obtain ⟨t, ht⟩ : ∃ t, ballotText xs = t := ⟨_, rfl⟩
          rw [ht] at htx
          rw [ht]
          clear hI hown3 hG3 hR3 ht
          go_wp2_with fail
          refine (c_pick R _ 8 _ hR4 (by omega) (by omega) (by omega)).mono ?_
          rintro e x3 ⟨k9, hk9, rfl, hR5, hg5, hz5⟩
          have hown5 := own_keepR hown4 hg5 hRw
          have hG5 := gb_trans hG4 hg5
          clear hown4 hG4 hR4 hg5 hz5
          have hadd := addRes_small (m := 1 + (k9 : Int)) hsz.out htx.out
          obtain ⟨O, hO⟩ : ∃ O, addOK ps t (1 + (k9 : Int)) = O := ⟨_, rfl⟩
          obtain ⟨qs, hqs⟩ : ∃ qs, addRes ps t (1 + (k9 : Int)) = qs := ⟨_, rfl⟩
          have hcall := c_spec_PilesAdd _ P N c' ps t (1 + (k9 : Int)) x3 (Sl.own hown5) (by omega) (fun p hp => by have := hsz.out.2 p hp; omega) (by have := htx.out; omega)
          rw [hO, hqs] at hcall
          rw [hqs] at hadd
          obtain ⟨M, hM⟩ : ∃ M, qs.length = M := ⟨_, rfl⟩
          have HM := Lib.hid hM
          rw [show PilesOkRes qs O x3 = fun e w' => ∃ B c, e = .returned (.tuple #[.slice B M c, .bool O]) ∧ x3.grownBy w' none ∧ w'.ownsRow x3.heap.size 66 2 (.slice B M c) M (cellsOf plCells qs) from by rw [← hM]; rfl] at hcall
          rw [hM] at hadd
          have hM12 := hadd.1
          have Hqs := Lib.hid hadd.2
          have Hc := Lib.hid hcall
          clear hcall hO hqs hM hadd
          go_wp2_with fail
          refine Hc.out.mono ?_
          rintro e x4 ⟨B4, c4, rfl, hg6, ho6⟩
          have hown6 := own_below hown5 hg6
          have hG6 := gb_trans hG5 (gb_mono hg6 (some R))
          have hR6 := hR5.grown hg6 (by simp)
          have ho7 := own_lo ho6 hG5.size
          clear Hc hown5 hG5 hR5 hg6 ho6
          cases O with
          | true =>
            go_wp2
            go_roundw
            case rel => exact ⟨q + 1, M, B4, c4, qs, by omega, hM12, by go_num, rfl, hG6, hR6.mono (by omega), ho7, HM, Hqs⟩
            case measure => simp [intOf]; omega
          | false =>
            go_wp2
            go_roundw
            case rel => exact ⟨q + 1, N, P, c', ps, by omega, hN12, by go_num, rfl, hG6, hR6.mono (by omega), hown6, hl, hzp⟩
            case measure => simp [intOf]; omega
        · obtain rfl : q = mn := by omega
          rename World => x
          have hwx := hG.size
          have hwxx := hGx.size
          go_wp2_with fail
          refine (c_pick _ _ _ _ hRx (by omega) (by omega) (by omega)).mono ?_
          rintro e x1 ⟨p2, hp2, rfl, hR3, hg3, hz3⟩
          have hP3 : Piles x1 wr.heap.size P N c' ps := Sl.own (own_keepR hown hg3 hRw)
          have hG3 := gb_trans hGx hg3
          have hL3 := hL.keepR hG3 hRl hRl
          have hGw := gb_trans hG hG3
          have hwz := hGw.size
          clear hg3 hz3 hown hRx hG3
          go_wp2_with (at_builtin; refine wpList_app pctE rfl _ _ rfl w.heap.size k _ _ rfl hL3.row [_, _] rfl rfl (by simp [Value.oneCell']) (by omega) (by omega) hwz ?_; intro B' d' w7 hown7 hb7 hg7 hat7)
          have hL7 := hL3.push (x := (2 * (k : Int) + 1 + (p2 : Int), ps)) (d := (P, c')) (by rw [show pcRec.cells ((2 * (k : Int) + 1 + (p2 : Int), ps), (P, c')) = [.int .i64 (2 * (k : Int) + 1 + (p2 : Int)), .slice P N c'] from by rw [← hl.out]; rfl]; exact hown7) hg7 hat7 (by show Piles _ _ P ps.length c' ps; rw [hl.out]; exact hP3.mono hwx) (apart_above hL.row (by show Piles _ _ P ps.length c' ps; rw [hl.out]; exact hP3) (Nat.le_refl _))
          have hR7 := hR3.grown hg7 (fun y e => by have := (hL3.row.lt y e).1; omega)
          have hG7 := gb_step hGw hg7 (fun y e => .inr (hL3.row.lt y e).1)
          go_roundw
          case rel => exact ⟨k + 1, B', d', _, _, by omega, by go_num, rfl, hG7, hR7.mono (by omega), hL7, Lib.hid (fun b hb => by
            rcases List.mem_append.1 hb with hb | hb
            · exact hz.out b hb
            · rw [List.mem_singleton.1 hb]; exact ⟨by show ps.length ≤ 13; have := hl.out; omega, hzp.out⟩)⟩
          case measure => simp [intOf]; omega
    · obtain rfl : k = n1 := by omega
      have hRx : Rdr wr R (m + 1000) := hR.mono (by omega)
      clear hR
      by_cases hj0 : k = 0
      · subst hj0
        have hzz : zs.length = 0 := hzl.out
        go_wp2
        go_ret
        exact ⟨B, c, zs, by rw [hzz]; rfl, by rw [hzz]; exact hL.recs (Nat.le_refl _), by omega, hz.out, hRx.mono (by omega), hG⟩
      · have hj1 : 1 ≤ k := by omega
        have hj1' : (0 : Int) < (k : Int) := by omega
        obtain ⟨g, hBg, hgl, hgh⟩ := own_addr4 hL.row hj1
        go_wp2_with fail
        refine (c_pick _ _ _ _ hRx (by omega) (by omega) (by omega)).mono ?_
        rintro e w1 ⟨k1, hk1, rfl, hR1, hg1, hz1⟩
        have hk1n : k1 < k := by omega
        clear hz1
        go_wp2_with fail
        refine (c_pick _ _ _ _ hR1 (by omega) (by omega) (by omega)).mono ?_
        rintro e w2 ⟨p2, hp2, rfl, hR2, hg2, hz2⟩
        have hG2 := gb_trans hG (gb_trans hg1 hg2)
        have hL2 := (hL.keepR hg1 hRl hRl).keepR hg2 hRl hRl
        clear hz2 hL hg1 hg2
        have hk1z : k1 < zs.length := by rw [hzl.out]; exact hk1n
        obtain ⟨⟨id, ps⟩, hx⟩ : ∃ b, zs[k1]? = some b := ⟨zs[k1], List.getElem?_eq_getElem hk1z⟩
        obtain ⟨⟨A', c'⟩, hd⟩ : ∃ d, hs[k1]? = some d := ⟨hs[k1]'(by rw [hL2.len]; exact hk1z), List.getElem?_eq_getElem _⟩
        subst hBg
        have n0 : w2.cell? ⟨g, k1 * 2, none⟩ = some (.int .i64 id) := hL2.cell (j := 0) rfl hx hd (by show 0 < 2; omega)
        have n1 : w2.cell? ⟨g, k1 * 2 + 1, none⟩ = some (.slice A' ps.length c') := hL2.cell (j := 1) rfl hx hd (by show 1 < 2; omega)
        have f0 := hL2.row.frozenAt (k1 * 2)
        have f1 := hL2.row.frozenAt (k1 * 2 + 1)
        have hk1' : (k1 : Int) < (k : Int) := by omega
        have hk10 : (0 : Int) ≤ (k1 : Int) := by omega
        have hjc : k ≤ c := (Sl.own hL2.row).le
        have hcm : c ≤ 9223372036854775807 := (Sl.own hL2.row).max
        have hRg : R < g := by omega
        have Hx := Lib.hid hx
        have Hd := Lib.hid hd
        have hSx := Lib.hid (hz.out _ (List.mem_of_getElem? hx))
        obtain ⟨N, hN⟩ : ∃ N, ps.length = N := ⟨_, rfl⟩
        have HN := Lib.hid hN
        rw [hN] at n1
        clear hx hd hN
        rcases (by omega : p2 = 0 ∨ p2 = 1 ∨ p2 = 2 ∨ 2 < p2) with rfl | rfl | rfl | hp3
        · go_wp2_with fail
          have hal := gb_alloc (gb_refl w2 none) (.cells #[.int .i64 0, .int .i64 99, .int .i64 100, .int .i64 3] 3)
          have hBn := Blk.new w2 3 #[.int .i64 0, .int .i64 99, .int .i64 100, .int .i64 3]
          have hw2z := hG2.size
          refine (c_pick _ _ _ _ (hR2.grown hal (by simp)) (by omega) (by omega) (by omega)).mono ?_
          rintro e w3 ⟨p3, hp3, rfl, hR3, hg3, hz3⟩
          have hB3 := hBn.grown hg3 (by simp; omega)
          have hG3 := gb_trans hG2 (gb_trans (gb_mono hal (some R)) hg3)
          have hL3 := (hL2.keep hal).keepR hg3 hRl hRl
          have m0 := gb_cell hg3 (gb_cell hal n0 (by simp)) (by simp; omega)
          have f3 := hL3.row.frozenAt (k1 * 2)
          have b0 := hB3.cell 0
          have b1 := hB3.cell 1
          have b2 := hB3.cell 2
          have b3 := hB3.cell 3
          clear hal hBn hg3 hL2 n0 n1 f0 f1 hz3 hB3 hR2 hG2
          have hend : ∀ (z : Int) (x : World), x = w3.setCell ⟨g, k1 * 2, none⟩ (.int .i64 z) → PctsRes R m w (.returned (.slice (some ⟨g, 0, none⟩) k c)) x := by
            rintro z x rfl
            obtain ⟨hL4, hg4⟩ := hL3.setField (k := k1) (j := 0) (x := (id, ps)) (x' := (z, ps)) (u := .int .i64 z) rfl Hx.out (by show 0 < 1; omega) rfl rfl
            have hR4 := hR3.grown hg4 (by intro k e; injection e with e; omega)
            exact ⟨_, c, zs.set k1 (z, ps), by rw [List.length_set, hzl.out], by rw [List.length_set, hzl.out]; exact hL4.recs (Nat.le_refl _), by rw [List.length_set]; have := hzl.out; omega, fun b hb => by
              rcases List.mem_or_eq_of_mem_set hb with hb | rfl
              · exact hz.out b hb
              · exact hSx.out, hR4.mono (by omega), gb_setCell hG3 (p := ⟨g, k1 * 2, none⟩) (.inr hgl) _⟩
          have Hend := Lib.hid hend
          clear hend hL3 hR3 hG3
          rcases (by omega : p3 = 0 ∨ p3 = 1 ∨ p3 = 2 ∨ p3 = 3) with rfl | rfl | rfl | rfl
          all_goals
            go_wp2
            go_ret
            exact Hend.out _ _ rfl
        · go_wp2_with fail
          refine (c_l91Piles R _ 5 _ hR2 (by omega) (by omega) (by omega)).mono ?_
          rintro e w3 ⟨A3, c3, qs, rfl, ho3, hs3, hR3, hg3⟩
          have hL3 := hL2.keepR hg3 hRl hRl
          have hG3 := gb_trans hG2 hg3
          have m1 := gb_cell hg3 n1 (by simp; omega)
          have f3 := hL3.row.frozenAt (k1 * 2 + 1)
          have hend : ∀ (x : World), x = w3.setCell ⟨g, k1 * 2 + 1, none⟩ (.slice A3 qs.length c3) → PctsRes R m w (.returned (.slice (some ⟨g, 0, none⟩) k c)) x := by
            rintro x rfl
            obtain ⟨hL4, hg4⟩ := hL3.setHd (k := k1) (x := (id, ps)) (x' := (id, qs)) (d := (A3, c3)) rfl Hx.out rfl ((Sl.own ho3).mono hG2.size) (fun hn b hb e => by
              have h1 := (ho3.lt b.block (by show (Value.slice A3 _ c3).ownBlock = _; rw [show A3 = some b from hb]; rfl)).1
              have h2 := (hL2.row.lt g rfl).2
              omega)
            have hR4 := hR3.grown hg4 (by intro k e; injection e with e; omega)
            exact ⟨_, c, zs.set k1 (id, qs), by rw [List.length_set, hzl.out], by rw [List.length_set, hzl.out]; exact hL4.recs (Nat.le_refl _), by rw [List.length_set]; have := hzl.out; omega, fun b hb => by
              rcases List.mem_or_eq_of_mem_set hb with hb | rfl
              · exact hz.out b hb
              · exact hs3, hR4.mono (by omega), gb_setCell hG3 (p := ⟨g, k1 * 2 + 1, none⟩) (.inr hgl) _⟩
          have Hend := Lib.hid hend
          obtain ⟨M, hM⟩ : ∃ M, qs.length = M := ⟨_, rfl⟩
          rw [hM] at Hend
          rw [hM]
          clear hend hL3 hR3 hG3 ho3 hs3 hM hL2 hR2 hG2 n0 n1 f0 f1 hg3
          go_wp2
          go_ret
          exact Hend.out _ rfl
        · have hpl := hL2.piles k1 _ _ Hx.out Hd.out
          have hap := hL2.apart k1 _ _ Hx.out Hd.out
          have Hpl := Lib.hid hpl
          have Hap := Lib.hid hap
          have hwz2 := hG2.size
          clear hpl hap
          go_wp2_with (at_builtin; refine wpList_app pctE rfl _ _ rfl w.heap.size k _ _ rfl hL2.row [_, _] rfl rfl (by simp [Value.oneCell']) (by omega) (by omega) hwz2 ?_; intro B' d' w7 hown7 hb7 hg7 hat7)
          have hL7 := hL2.push (x := (id, ps)) (d := (A', c')) (by rw [show pcRec.cells ((id, ps), (A', c')) = [.int .i64 id, .slice A' N c'] from by rw [← HN.out]; rfl]; exact hown7) hg7 hat7 Hpl.out Hap.out
          have hR7 := hR2.grown hg7 (fun x e => by have := (hL2.row.lt x e).1; omega)
          have hG7 := gb_step hG2 hg7 (fun x e => .inr (hL2.row.lt x e).1)
          go_ret
          have hl7 : (zs ++ [((id, ps) : Pc)]).length = k + 1 := by rw [List.length_append, hzl.out]; rfl
          exact ⟨B', d', _, by rw [hl7]; rfl, by rw [hl7]; exact hL7.recs (Nat.le_refl _), by omega, fun b hb => by
            rcases List.mem_append.1 hb with hb | hb
            · exact hz.out b hb
            · rw [List.mem_singleton.1 hb]; exact hSx.out, hR7.mono (by omega), hG7⟩
        · have q0 : ((p2 : Int) == 0) = false := by simp; omega
          have q1 : ((p2 : Int) == 1) = false := by simp; omega
          have q2 : ((p2 : Int) == 2) = false := by simp; omega
          go_wp2
          go_ret
          exact ⟨_, c, zs, by rw [hzl.out]; rfl, by rw [hzl.out]; exact hL2.recs (Nat.le_refl _), by have := hzl.out; omega, hz.out, hR2.mono (by omega), hG2⟩

set_option maxHeartbeats 1000000 in
theorem c_l92Least (R m : Nat) (w : World) (h : Rdr w R m) (hm : m ≤ 800000) :
    Calls Try.prog 49 #[.pointer (some ⟨R, 0, none⟩)] w fun e w' => ∃ z : Int, e = .returned (.int .i64 z) ∧ w.grownBy w' (some R) := by
  have hRl := h.lt
  go_enter Try.func49, Try.ntmps49
  go_wp2_with fail
  refine (c_pick _ _ _ _ h (by omega) (by omega) (by omega)).mono ?_
  rintro e w1 ⟨p1, hp1, rfl, hR1, hg1, hz1⟩
  clear hz1
  by_cases hp0 : p1 = 0
  · subst hp0
    go_wp2_with fail
    have hal := gb_alloc (gb_refl w1 none) (.cells #[.int .i64 0, .int .i64 1, .int .i64 99, .int .i64 100] 3)
    have hBn := Blk.new w1 3 #[.int .i64 0, .int .i64 1, .int .i64 99, .int .i64 100]
    have hR1l := hR1.lt
    refine (c_pick _ _ _ _ (hR1.grown hal (by simp)) (by omega) (by omega) (by omega)).mono ?_
    rintro e w2 ⟨p2, hp2, rfl, hR2, hg2, hz2⟩
    have hB2 := hBn.grown hg2 (by simp; omega)
    have b0 := hB2.cell 0
    have b1 := hB2.cell 1
    have b2 := hB2.cell 2
    have b3 := hB2.cell 3
    have hG := gb_trans hg1 (gb_trans (gb_mono hal (some R)) hg2)
    clear hz2 hBn hal hB2 hR1 hR2 hg2
    rcases (by omega : p2 = 0 ∨ p2 = 1 ∨ p2 = 2 ∨ p2 = 3) with rfl | rfl | rfl | rfl
    all_goals
      go_wp2
      go_ret
      exact ⟨_, rfl, hG⟩
  · have hpb : ((p1 : Int) == 0) = false := by simpa using hp0
    go_wp2_with fail
    refine (c_pick _ _ _ _ hR1 (by omega) (by omega) (by omega)).mono ?_
    rintro e w2 ⟨p2, hp2, rfl, hR2, hg2, hz2⟩
    go_wp2
    go_ret
    exact ⟨_, rfl, gb_trans hg1 hg2⟩

/-- Precincts and a least number, drawn. -/
def DrawnPcts (w : World) (e : Ending) (w' : World) : Prop := ∃ B c bs, e = .returned (.slice B bs.length c) ∧ Pcts w' w.heap.size B bs.length c bs ∧ bs.length ≤ 7 ∧ (∀ b ∈ bs, SmallPls b.2) ∧ w.grownBy w' none
def DrawnPctsN (w : World) (e : Ending) (w' : World) : Prop := ∃ B c bs z, e = .returned (.tuple #[.slice B bs.length c, .int .i64 z]) ∧ Pcts w' w.heap.size B bs.length c bs ∧ bs.length ≤ 7 ∧ (∀ b ∈ bs, SmallPls b.2) ∧ w.grownBy w' none
theorem c_DrawPrecinctsValid (A : Option Addr) (len cap : Nat) (w : World) (h : CodeArg w A len cap) :
    Calls Try.prog 14 #[.slice A len cap] w (DrawnPcts w) := by
  go_enter Try.func14, Try.ntmps14
  go_wp2_with fail
  refine (c_l6Open A len cap w h).mono ?_
  rintro e w1 ⟨rfl, hR1, hg1, hz1⟩
  go_wp2_with fail
  refine (c_l92Precincts _ _ _ hR1 (by omega)).mono ?_
  rintro e w2 ⟨B, c, bs, rfl, hbs, hl, hs, hR2, hg2⟩
  have hG2 : w.grownBy w2 none := gb_step hg1 hg2 (fun g e => by injection e with e; right; omega)
  have hb' := hbs.mono hg1.size
  obtain ⟨N, hN⟩ : ∃ N, bs.length = N := ⟨_, rfl⟩
  have HN := Lib.hid hN
  rw [hN]
  clear hN
  go_wp2
  go_ret
  exact ⟨B, c, bs, by rw [HN.out]; rfl, hb', hl, hs, hG2⟩
theorem c_DrawPrecinctsTotal (A : Option Addr) (len cap : Nat) (w : World) (h : CodeArg w A len cap) :
    Calls Try.prog 29 #[.slice A len cap] w (DrawnPcts w) := by
  go_enter Try.func29, Try.ntmps29
  go_wp2_with fail
  refine (c_l6Open A len cap w h).mono ?_
  rintro e w1 ⟨rfl, hR1, hg1, hz1⟩
  go_wp2_with fail
  refine (c_l92Precincts _ _ _ hR1 (by omega)).mono ?_
  rintro e w2 ⟨B, c, bs, rfl, hbs, hl, hs, hR2, hg2⟩
  have hG2 : w.grownBy w2 none := gb_step hg1 hg2 (fun g e => by injection e with e; right; omega)
  have hb' := hbs.mono hg1.size
  obtain ⟨N, hN⟩ : ∃ N, bs.length = N := ⟨_, rfl⟩
  have HN := Lib.hid hN
  rw [hN]
  clear hN
  go_wp2
  go_ret
  exact ⟨B, c, bs, by rw [HN.out]; rfl, hb', hl, hs, hG2⟩
theorem c_DrawPrecinctsGroup (A : Option Addr) (len cap : Nat) (w : World) (h : CodeArg w A len cap) :
    Calls Try.prog 17 #[.slice A len cap] w (DrawnPctsN w) := by
  go_enter Try.func17, Try.ntmps17
  go_wp2_with fail
  refine (c_l6Open A len cap w h).mono ?_
  rintro e w1 ⟨rfl, hR1, hg1, hz1⟩
  go_wp2_with fail
  refine (c_l92Precincts _ _ _ hR1 (by omega)).mono ?_
  rintro e w2 ⟨B, c, bs, rfl, hbs, hl, hs, hR2, hg2⟩
  have hb' := hbs.mono hg1.size
  have hwl : w.heap.size < w1.heap.size := hR1.lt
  obtain ⟨N, hN⟩ : ∃ N, bs.length = N := ⟨_, rfl⟩
  have HN := Lib.hid hN
  rw [hN] at hbs
  rw [hN]
  clear hN
  go_wp2_with fail
  refine (c_l92Least _ _ _ hR2 (by omega)).mono ?_
  rintro e w3 ⟨z, rfl, hg3⟩
  have hG3 : w.grownBy w3 none := gb_step (gb_step hg1 hg2 (fun g e => by injection e with e; right; omega)) hg3 (fun g e => by injection e with e; right; omega)
  have hb3 : Pcts w3 w.heap.size B N c bs := by
    have h1 := hbs
    obtain ⟨ds, e1, e2, e3⟩ := h1
    exact Recs.mono ⟨ds, e1, Sl.keep e2 hg3 (fun k e => by injection e with e; omega), fun k x y hx hy => Piles.keepR (e3 k x y hx hy) hg3 hwl⟩ hg1.size
  go_wp2
  go_ret2
  exact ⟨B, c, bs, z, by rw [HN.out]; rfl, by rw [HN.out]; exact hb3, hl, hs, hG3⟩
theorem c_DrawPrecinctsPublish (A : Option Addr) (len cap : Nat) (w : World) (h : CodeArg w A len cap) :
    Calls Try.prog 39 #[.slice A len cap] w (DrawnPctsN w) := by
  go_enter Try.func39, Try.ntmps39
  go_wp2_with fail
  refine (c_DrawPrecinctsGroup A len cap w h).mono ?_
  rintro e w1 ⟨B, c, bs, z, rfl, hb, hl, hs, hg⟩
  obtain ⟨N, hN⟩ : ∃ N, bs.length = N := ⟨_, rfl⟩
  have HN := Lib.hid hN
  rw [hN] at hb
  rw [hN]
  clear hN
  go_wp2
  go_ret2
  exact ⟨B, c, bs, z, by rw [HN.out]; rfl, by rw [HN.out]; exact hb, hl, hs, hg⟩
end Go.Proofs.Ytifmljckmjnpfaa
