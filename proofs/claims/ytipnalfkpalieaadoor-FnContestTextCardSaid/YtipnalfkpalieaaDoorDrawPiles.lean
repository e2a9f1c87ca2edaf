/-
  Drawn piles: spec.l91Piles.
-/
import Derived.Test.YtipnalfkpalieaaDoorPilesAdd
import Derived.Test.YtipnalfkpalieaaDoorDrawBallot
import Derived.Test.YtipnalfkpalieaaDoorDrawNode
import Derived.Test.YtipnalfkpalieaaDoorOwn
namespace Go.Proofs.YtipnalfkpalieaaDoor
open Go.RowKit
set_option linter.unusedVariables false

/-- Small piles. -/
def SmallPls (ps : List Pl) : Prop := ps.length ≤ 13 ∧ ∀ p ∈ ps, p.1.size ≤ 100
theorem SmallPls.nil : SmallPls [] := ⟨Nat.zero_le _, by intro p hp; cases hp⟩
theorem addRes_small {ps : List Pl} {t : ByteArray} {m : Int} (h : SmallPls ps) (ht : t.size ≤ 100) : (addRes ps t m).length ≤ 12 ∧ ∀ p ∈ addRes ps t m, p.1.size ≤ 100 := by
  unfold addRes
  split
  · rename_i hok
    unfold addOK at hok
    rw [Bool.and_eq_true, pilesOK_iff (put ps t m)] at hok
    exact ⟨hok.2.2.2, put_sizes h.2 ht⟩
  · exact ⟨Nat.zero_le _, by intro p hp; cases hp⟩
theorem own_keepR {w w' : World} {L e size n R : Nat} {v : Value} {xs : List Value} (h : w.ownsRow L e size v n xs) (hg : w.grownBy w' (some R)) (hR : R < L) : w'.ownsRow L e size v n xs :=
  own_kept h hg (fun k e => by injection e with e; subst e; exact .inl hR)
theorem own_addr4 {w : World} {lo e size n c : Nat} {A : Option Addr} {xs : List Value} (h : w.ownsRow lo e size (.slice A n c) n xs) (hn : 0 < n) : ∃ g, A = some ⟨g, 0, none⟩ ∧ lo ≤ g ∧ g < w.heap.size := by
  rcases h.2 with ⟨h1, h2⟩ | ⟨g, cap, cur, h1, hg, hh, _⟩
  · omega
  · injection h1 with h1
    exact ⟨g, h1, hg, Blk.lt hh⟩
/-- A store into a pile. -/
theorem own_setPile {w : World} {L e n c g k j : Nat} {ps : List Pl} {p p' : Pl} {u : Value} (h : w.ownsRow L e 2 (.slice (some ⟨g, 0, none⟩) n c) n (cellsOf plCells ps)) (hp : ps[k]? = some p) (hj : j < 2) (hu : plCells p' = (plCells p).set j u) :
    (w.setCell ⟨g, k * 2 + j, none⟩ u).ownsRow L e 2 (.slice (some ⟨g, 0, none⟩) n c) n (cellsOf plCells (ps.set k p')) ∧ w.grownBy (w.setCell ⟨g, k * 2 + j, none⟩ u) (some g) := by
  obtain ⟨hst, hgs⟩ := h.stored (k * 2 + j) u
  rw [cellsOf_set (j := j) (u := u) plCells_len hp hj hu]
  exact ⟨hst, hgs⟩
theorem own_pileC {w : World} {L e n c g k j : Nat} {ps : List Pl} {p : Pl} (h : w.ownsRow L e 2 (.slice (some ⟨g, 0, none⟩) n c) n (cellsOf plCells ps)) (hp : ps[k]? = some p) (hk : k < n) (hj : j < 2) : w.cell? ⟨g, k * 2 + j, none⟩ = (plCells p)[j]? := by
  rw [h.cellAt _ (by omega)]
  exact cellsOf_at plCells_len hp hj

/-- Drawn piles. -/
def DrawnPls (R m : Nat) (w : World) (e : Ending) (w' : World) : Prop :=
  ∃ A c ps, e = .returned (.slice A ps.length c) ∧ w'.ownsRow w.heap.size 48 2 (.slice A ps.length c) ps.length (cellsOf plCells ps) ∧ SmallPls ps ∧ Rdr w' R (m + 2000) ∧ w.grownBy w' (some R)

set_option maxHeartbeats 4000000 in
theorem c_l91Piles (R m : Nat) (n : Int) (w : World) (h : Rdr w R m) (hm : m ≤ 800000) (hn1 : 1 ≤ n) (hn5 : n ≤ 5) :
    Calls Tryd.prog 87 #[.pointer (some ⟨R, 0, none⟩), .int .i64 n] w (DrawnPls R m w) := by
  have hRl := h.lt
  have hRa : Rdr (w.alloc (.cells #[] 48)) R m := h.grown (gb_alloc (gb_refl _ none) _) (by simp)
  have hga := gb_alloc (gb_refl w (some R)) (.cells #[] 48)
  have hoa := own_empty w w.heap.size 48 2 (Nat.le_refl _)
  go_enter Tryd.func87, Tryd.ntmps87
  go_wp2_with fail
  refine (c_pick _ _ _ _ hRa (by omega) (by omega) (by omega)).mono ?_
  rintro e w1 ⟨p1, hp1, rfl, hR1, hg1, hz1⟩
  have hG1 := gb_trans hga hg1
  have ho1 := own_keepR hoa hg1 hRl
  clear hoa hga hRa hg1 hz1
  go_wp2_with fail
  refine (c_pick _ _ _ _ hR1 (by omega) (by omega) (by omega)).mono ?_
  rintro e w2 ⟨p2, hp2, rfl, hR2, hg2, hz2⟩
  have hG2 := gb_trans hG1 hg2
  have ho2 := own_keepR ho1 hg2 hRl
  clear ho1 hG1 hR1 hg2 hz2
  by_cases hp0 : p2 = 0
  · subst hp0
    go_wp2
    go_loopw [5, 7] (fun v i x => ∃ (q N : Nat) (P : Option Addr) (c : Nat) (ps : List Pl), q ≤ 40 ∧ N ≤ 12 ∧ i = .int .i64 (q : Int) ∧ v = .slice P N c ∧ w.grownBy x (some R) ∧ Rdr x R (m + 2 + 31 * q) ∧ x.ownsRow w.heap.size 48 2 (.slice P N c) N (cellsOf plCells ps) ∧ Hid (ps.length = N) ∧ Hid (∀ p ∈ ps, p.1.size ≤ 100)) (fun _ i _ => 40 - (intOf i).toNat)
    case atStart => exact ⟨0, 0, _, _, [], Nat.zero_le _, Nat.zero_le _, rfl, rfl, hG2, hR2, ho2, Lib.hid rfl, Lib.hid (by intro p hp; cases hp)⟩
    case round =>
      obtain ⟨q, N, P, c, ps, hq, hN12, rfl, rfl, hG, hR, hown, hl, hz⟩ := hrel
      by_cases hlt : q < 40
      · have hlt' : (q : Int) < (40 : Int) := by omega
        rename World => x
        have hwx := hG.size
        have hsz := Lib.hid (show SmallPls ps from ⟨by have := hl.out; omega, hz.out⟩)
        go_wp2_with fail
        refine (c_l91Ballot R _ n _ hR (by omega) (by omega) (by omega)).mono ?_
        rintro e x1 ⟨A1, c1, xs, rfl, hoB, hall, hxs, hR3, hg3, hz3⟩
        have hI := Sl.own hoB
        have hg3' := hg3
        have hown3 := own_keepR hown hg3 hRl
        have hG3 := gb_trans hG hg3
        have htx := Lib.hid (ballotText_size xs hxs)
        clear hoB hall hz3 hg3 hown
        go_wp2_with fail
        refine (c_spec_BallotText _ A1 xs.length c1 xs _ hI (by omega)).mono ?_
        rintro e x2 ⟨rfl, d, rfl⟩
        have hown4 := own_drewN hown3 d
        have hG4 := gb_drewN hG3 d
        have hR4 := hR3.grown (gb_drewN (gb_refl x1 none) d) (by simp)
        obtain ⟨t, ht⟩ : ∃ t, ballotText xs = t := ⟨_, rfl⟩
        rw [ht] at htx
        rw [ht]
        clear hI hown3 hG3 hR3 ht
        go_wp2_with fail
        refine (c_pick R _ 9 _ hR4 (by omega) (by omega) (by omega)).mono ?_
        rintro e x3 ⟨k9, hk9, rfl, hR5, hg5, hz5⟩
        have hown5 := own_keepR hown4 hg5 hRl
        have hG5 := gb_trans hG4 hg5
        clear hown4 hG4 hR4 hg5 hz5
        have hadd := addRes_small (m := 1 + (k9 : Int)) hsz.out htx.out
        obtain ⟨O, hO⟩ : ∃ O, addOK ps t (1 + (k9 : Int)) = O := ⟨_, rfl⟩
        obtain ⟨qs, hqs⟩ : ∃ qs, addRes ps t (1 + (k9 : Int)) = qs := ⟨_, rfl⟩
        have hcall := c_spec_PilesAdd _ P N c ps t (1 + (k9 : Int)) x3 (Sl.own hown5) (by omega) (fun p hp => by have := hsz.out.2 p hp; omega) (by have := htx.out; omega)
        rw [hO, hqs] at hcall
        rw [hqs] at hadd
        obtain ⟨M, hM⟩ : ∃ M, qs.length = M := ⟨_, rfl⟩
        have HM := Lib.hid hM
        rw [show PilesOkRes qs O x3 = fun e w' => ∃ B c, e = .returned (.tuple #[.slice B M c, .bool O]) ∧ x3.grownBy w' none ∧ w'.ownsRow x3.heap.size 48 2 (.slice B M c) M (cellsOf plCells qs) from by rw [← hM]; rfl] at hcall
        rw [hM] at hadd
        have hM12 := hadd.1
        have Hqs := Lib.hid hadd.2
        have Hc := Lib.hid hcall
        clear hcall hO hqs hM hadd
        go_wp2_with fail
        refine Hc.out.mono ?_
        rintro e x4 ⟨B4, c4, rfl, hg6, ho6⟩
        have hown6 := own_below hown5 hg6
        have hG6 := gb_trans hG5 (gb_mono hg6 (some R))
        have hR6 := hR5.grown hg6 (by simp)
        have ho7 := own_lo ho6 hG5.size
        clear Hc hown5 hG5 hR5 hg6 ho6
        cases O with
        | true =>
          go_wp2
          go_roundw
          case rel => exact ⟨q + 1, M, B4, c4, qs, by omega, hM12, by go_num, rfl, hG6, hR6.mono (by omega), ho7, HM, Hqs⟩
          case measure => simp [intOf]; omega
        | false =>
          go_wp2
          go_roundw
          case rel => exact ⟨q + 1, N, P, c, ps, by omega, hN12, by go_num, rfl, hG6, hR6.mono (by omega), hown6, hl, hz⟩
          case measure => simp [intOf]; omega
      · obtain rfl : q = 40 := by omega
        rename World => x
        have hRx : Rdr x R (m + 1300) := hR.mono (by omega)
        clear hR
        by_cases hN0 : N = 0
        · subst hN0
          go_wp2
          go_ret
          exact ⟨P, c, ps, by rw [hl.out]; rfl, by rw [hl.out]; exact hown, ⟨by have := hl.out; omega, hz.out⟩, hRx.mono (by omega), hG⟩
        have hN0' : (0 : Int) < (N : Int) := by omega
        obtain ⟨g, rfl, hgl, hgh⟩ := own_addr4 hown (by omega)
        have hNc : N ≤ c := (Sl.own hown).le
        have hcm : c ≤ 9223372036854775807 := (Sl.own hown).max
        go_wp2_with fail
        refine (c_pick _ _ _ _ hRx (by omega) (by omega) (by omega)).mono ?_
        rintro e x1 ⟨k1, hk1, rfl, hR1, hg1, hz1⟩
        have hk1n : k1 < N := by omega
        have ho1 := own_keepR hown hg1 hRl
        have hG1 := gb_trans hG hg1
        clear hown hg1 hz1 hRx
        go_wp2_with fail
        refine (c_pick _ _ _ _ hR1 (by omega) (by omega) (by omega)).mono ?_
        rintro e x2 ⟨p3, hp3, rfl, hR2, hg2, hz2⟩
        have ho2 := own_keepR ho1 hg2 hRl
        have hG2 := gb_trans hG1 hg2
        clear ho1 hG1 hg2 hz2 hR1
        obtain ⟨⟨s, z⟩, hx⟩ : ∃ p, ps[k1]? = some p := ⟨ps[k1]'(by rw [hl.out]; exact hk1n), List.getElem?_eq_getElem _⟩
        have n0 : x2.cell? ⟨g, k1 * 2, none⟩ = some (.string s) := own_pileC (j := 0) ho2 hx hk1n (by omega)
        have n1 : x2.cell? ⟨g, k1 * 2 + 1, none⟩ = some (.int .i64 z) := own_pileC (j := 1) ho2 hx hk1n (by omega)
        have f0 := ho2.frozenAt (k1 * 2)
        have f1 := ho2.frozenAt (k1 * 2 + 1)
        have hk1' : (k1 : Int) < (N : Int) := by omega
        have hk10 : (0 : Int) ≤ (k1 : Int) := by omega
        have hRg : R < g := by omega
        have Hx := Lib.hid hx
        have hsx := Lib.hid (hz.out _ (List.mem_of_getElem? hx))
        clear hx
        rcases (by omega : p3 = 0 ∨ p3 = 1 ∨ p3 = 2 ∨ 2 < p3) with rfl | rfl | rfl | hp4
        · go_wp2_with fail
          have hal := gb_alloc (gb_refl x2 none) (.cells #[.int .i64 0, .int .i64 99, .int .i64 100] 3)
          have hBn := Blk.new x2 3 #[.int .i64 0, .int .i64 99, .int .i64 100]
          have hwz := hG2.size
          refine (c_pick _ _ _ _ (hR2.grown hal (by simp)) (by omega) (by omega) (by omega)).mono ?_
          rintro e x3 ⟨p5, hp5, rfl, hR3, hg3, hz3⟩
          have hB3 := hBn.grown hg3 (by simp; omega)
          have hG3 := gb_trans hG2 (gb_trans (gb_mono hal (some R)) hg3)
          have ho3 := own_keepR (own_below ho2 hal) hg3 hRl
          have m1 := gb_cell hg3 (gb_cell hal n1 (by simp)) (by simp; omega)
          have f3 := ho3.frozenAt (k1 * 2 + 1)
          have b0 := hB3.cell 0
          have b1 := hB3.cell 1
          have b2 := hB3.cell 2
          clear hal hBn hg3 ho2 n0 n1 f0 f1 hz3 hB3 hR2 hG2
          have hend : ∀ (z' : Int) (y : World), y = x3.setCell ⟨g, k1 * 2 + 1, none⟩ (.int .i64 z') → DrawnPls R m w (.returned (.slice (some ⟨g, 0, none⟩) N c)) y := by
            rintro z' y rfl
            obtain ⟨ho4, hg4⟩ := own_setPile (j := 1) (p' := (s, z')) (u := .int .i64 z') ho3 Hx.out (by omega) rfl
            have hll : (ps.set k1 (s, z')).length = N := by rw [List.length_set]; exact hl.out
            exact ⟨_, c, ps.set k1 (s, z'), by rw [hll], by rw [hll]; exact ho4, ⟨by omega, fun p hp => by
              rcases List.mem_or_eq_of_mem_set hp with hp | rfl
              · exact hz.out p hp
              · exact hsx.out⟩, (hR3.grown hg4 (by intro k e; injection e with e; omega)).mono (by omega), gb_setCell hG3 (.inr hgl) _⟩
          have Hend := Lib.hid hend
          clear hend ho3 hR3 hG3
          rcases (by omega : p5 = 0 ∨ p5 = 1 ∨ p5 = 2) with rfl | rfl | rfl
          all_goals
            go_wp2
            go_ret
            exact Hend.out _ _ rfl
        · have hwz2 := hG2.size
          go_wp2_with (at_builtin; refine wpList_app pileE rfl _ _ rfl w.heap.size N _ _ rfl ho2 [_, _] rfl rfl (by simp [Value.oneCell']) (by omega) (by omega) hwz2 ?_; intro B' d' w7 hown7 hb7 hg7 hat7)
          have hR7 := hR2.grown hg7 (fun y e => by have := (ho2.lt y e).1; omega)
          have hG7 := gb_step hG2 hg7 (fun y e => .inr (ho2.lt y e).1)
          go_ret
          have hll : (ps ++ [(s, z)]).length = N + 1 := by rw [List.length_append, hl.out]; rfl
          exact ⟨B', d', _, by rw [hll]; rfl, by rw [hll, cellsOf_append, cellsOf_one]; exact hown7, ⟨by omega, fun p hp => by
            rcases List.mem_append.1 hp with hp | hp
            · exact hz.out p hp
            · rw [List.mem_singleton.1 hp]; exact hsx.out⟩, hR7.mono (by omega), hG7⟩
        · go_wp2_with fail
          have hal := gb_alloc (gb_refl x2 none) (.cells #[.string ⟨#[97, 97]⟩, .string ⟨#[102]⟩, .string ⟨#[120]⟩] 9)
          have hBn := Blk.new x2 9 #[.string ⟨#[97, 97]⟩, .string ⟨#[102]⟩, .string ⟨#[120]⟩]
          have hwz := hG2.size
          have hS : Strs (x2.alloc (.cells #[.string ⟨#[97, 97]⟩, .string ⟨#[102]⟩, .string ⟨#[120]⟩] 9)) x2.heap.size (some ⟨x2.heap.size, 0, none⟩) 3 3 [⟨#[97, 97]⟩, ⟨#[102]⟩, ⟨#[120]⟩] :=
            Sl.own (own_of_blk (size := 1) (n := 3) hBn rfl (by omega) (Nat.le_refl _))
          refine (c_of R _ x2.heap.size _ 3 3 _ _ (hR2.grown hal (by simp)) (by omega) hS (by omega) (by omega) (by omega)).mono ?_
          rintro e x3 ⟨t, ht, rfl, hR3, hg3, hz3⟩
          have ht1 : t.size ≤ 100 := by
            simp at ht
            rcases ht with rfl | rfl | rfl <;> decide
          have hG3 := gb_trans hG2 (gb_trans (gb_mono hal (some R)) hg3)
          have ho3 := own_keepR (own_below ho2 hal) hg3 hRl
          have m0 := gb_cell hg3 (gb_cell hal n0 (by simp)) (by simp; omega)
          have f3 := ho3.frozenAt (k1 * 2)
          have Ht := Lib.hid ht1
          clear hal hBn hg3 ho2 n0 n1 f0 f1 hz3 hR2 hG2 hS ht ht1
          have hend : ∀ (y : World), y = x3.setCell ⟨g, k1 * 2, none⟩ (.string t) → DrawnPls R m w (.returned (.slice (some ⟨g, 0, none⟩) N c)) y := by
            rintro y rfl
            obtain ⟨ho4, hg4⟩ := own_setPile (j := 0) (p' := (t, z)) (u := .string t) ho3 Hx.out (by omega) rfl
            have hll : (ps.set k1 (t, z)).length = N := by rw [List.length_set]; exact hl.out
            exact ⟨_, c, ps.set k1 (t, z), by rw [hll], by rw [hll]; exact ho4, ⟨by omega, fun p hp => by
              rcases List.mem_or_eq_of_mem_set hp with hp | rfl
              · exact hz.out p hp
              · exact Ht.out⟩, (hR3.grown hg4 (by intro k e; injection e with e; omega)).mono (by omega), gb_setCell hG3 (.inr hgl) _⟩
          have Hend := Lib.hid hend
          clear hend ho3 hR3 hG3
          go_wp2
          go_ret
          exact Hend.out _ rfl
        · have q0 : ((p3 : Int) == 0) = false := by simp; omega
          have q1 : ((p3 : Int) == 1) = false := by simp; omega
          have q2 : ((p3 : Int) == 2) = false := by simp; omega
          go_wp2
          go_ret
          exact ⟨_, c, ps, by rw [hl.out]; rfl, by rw [hl.out]; exact ho2, ⟨by have := hl.out; omega, hz.out⟩, hR2.mono (by omega), hG2⟩
  · have hpb : ((p2 : Int) == 0) = false := by simpa using hp0
    have hp1' : p1 ≤ 7 := by omega
    go_wp2
    go_loopw [5, 7] (fun v i x => ∃ (q N : Nat) (P : Option Addr) (c : Nat) (ps : List Pl), q ≤ p1 ∧ N ≤ 12 ∧ i = .int .i64 (q : Int) ∧ v = .slice P N c ∧ w.grownBy x (some R) ∧ Rdr x R (m + 2 + 31 * q) ∧ x.ownsRow w.heap.size 48 2 (.slice P N c) N (cellsOf plCells ps) ∧ Hid (ps.length = N) ∧ Hid (∀ p ∈ ps, p.1.size ≤ 100)) (fun _ i _ => p1 - (intOf i).toNat)
    case atStart => exact ⟨0, 0, _, _, [], Nat.zero_le _, Nat.zero_le _, rfl, rfl, hG2, hR2, ho2, Lib.hid rfl, Lib.hid (by intro p hp; cases hp)⟩
    case round =>
      obtain ⟨q, N, P, c, ps, hq, hN12, rfl, rfl, hG, hR, hown, hl, hz⟩ := hrel
      by_cases hlt : q < p1
      · have hlt' : (q : Int) < (p1 : Int) := by omega
        rename World => x
        have hwx := hG.size
        have hsz := Lib.hid (show SmallPls ps from ⟨by have := hl.out; omega, hz.out⟩)
        go_wp2_with fail
        refine (c_l91Ballot R _ n _ hR (by omega) (by omega) (by omega)).mono ?_
        rintro e x1 ⟨A1, c1, xs, rfl, hoB, hall, hxs, hR3, hg3, hz3⟩
        have hI := Sl.own hoB
        have hg3' := hg3
        have hown3 := own_keepR hown hg3 hRl
        have hG3 := gb_trans hG hg3
        have htx := Lib.hid (ballotText_size xs hxs)
        clear hoB hall hz3 hg3 hown
        go_wp2_with fail
        refine (c_spec_BallotText _ A1 xs.length c1 xs _ hI (by omega)).mono ?_
        rintro e x2 ⟨rfl, d, rfl⟩
        have hown4 := own_drewN hown3 d
        have hG4 := gb_drewN hG3 d
        have hR4 := hR3.grown (gb_drewN (gb_refl x1 none) d) (by simp)
        obtain ⟨t, ht⟩ : ∃ t, ballotText xs = t := ⟨_, rfl⟩
        rw [ht] at htx
        rw [ht]
        clear hI hown3 hG3 hR3 ht
        go_wp2_with fail
        refine (c_pick R _ 9 _ hR4 (by omega) (by omega) (by omega)).mono ?_
        rintro e x3 ⟨k9, hk9, rfl, hR5, hg5, hz5⟩
        have hown5 := own_keepR hown4 hg5 hRl
        have hG5 := gb_trans hG4 hg5
        clear hown4 hG4 hR4 hg5 hz5
        have hadd := addRes_small (m := 1 + (k9 : Int)) hsz.out htx.out
        obtain ⟨O, hO⟩ : ∃ O, addOK ps t (1 + (k9 : Int)) = O := ⟨_, rfl⟩
        obtain ⟨qs, hqs⟩ : ∃ qs, addRes ps t (1 + (k9 : Int)) = qs := ⟨_, rfl⟩
        have hcall := c_spec_PilesAdd _ P N c ps t (1 + (k9 : Int)) x3 (Sl.own hown5) (by omega) (fun p hp => by have := hsz.out.2 p hp; omega) (by have := htx.out; omega)
        rw [hO, hqs] at hcall
        rw [hqs] at hadd
        obtain ⟨M, hM⟩ : ∃ M, qs.length = M := ⟨_, rfl⟩
        have HM := Lib.hid hM
        rw [show PilesOkRes qs O x3 = fun e w' => ∃ B c, e = .returned (.tuple #[.slice B M c, .bool O]) ∧ x3.grownBy w' none ∧ w'.ownsRow x3.heap.size 48 2 (.slice B M c) M (cellsOf plCells qs) from by rw [← hM]; rfl] at hcall
        rw [hM] at hadd
        have hM12 := hadd.1
        have Hqs := Lib.hid hadd.2
        have Hc := Lib.hid hcall
        clear hcall hO hqs hM hadd
        go_wp2_with fail
        refine Hc.out.mono ?_
        rintro e x4 ⟨B4, c4, rfl, hg6, ho6⟩
        have hown6 := own_below hown5 hg6
        have hG6 := gb_trans hG5 (gb_mono hg6 (some R))
        have hR6 := hR5.grown hg6 (by simp)
        have ho7 := own_lo ho6 hG5.size
        clear Hc hown5 hG5 hR5 hg6 ho6
        cases O with
        | true =>
          go_wp2
          go_roundw
          case rel => exact ⟨q + 1, M, B4, c4, qs, by omega, hM12, by go_num, rfl, hG6, hR6.mono (by omega), ho7, HM, Hqs⟩
          case measure => simp [intOf]; omega
        | false =>
          go_wp2
          go_roundw
          case rel => exact ⟨q + 1, N, P, c, ps, by omega, hN12, by go_num, rfl, hG6, hR6.mono (by omega), hown6, hl, hz⟩
          case measure => simp [intOf]; omega
      · obtain rfl : q = p1 := by omega
        rename World => x
        have hRx : Rdr x R (m + 1300) := hR.mono (by omega)
        clear hR
        by_cases hN0 : N = 0
        · subst hN0
          go_wp2
          go_ret
          exact ⟨P, c, ps, by rw [hl.out]; rfl, by rw [hl.out]; exact hown, ⟨by have := hl.out; omega, hz.out⟩, hRx.mono (by omega), hG⟩
        have hN0' : (0 : Int) < (N : Int) := by omega
        obtain ⟨g, rfl, hgl, hgh⟩ := own_addr4 hown (by omega)
        have hNc : N ≤ c := (Sl.own hown).le
        have hcm : c ≤ 9223372036854775807 := (Sl.own hown).max
        go_wp2_with fail
        refine (c_pick _ _ _ _ hRx (by omega) (by omega) (by omega)).mono ?_
        rintro e x1 ⟨k1, hk1, rfl, hR1, hg1, hz1⟩
        have hk1n : k1 < N := by omega
        have ho1 := own_keepR hown hg1 hRl
        have hG1 := gb_trans hG hg1
        clear hown hg1 hz1 hRx
        go_wp2_with fail
        refine (c_pick _ _ _ _ hR1 (by omega) (by omega) (by omega)).mono ?_
        rintro e x2 ⟨p3, hp3, rfl, hR2, hg2, hz2⟩
        have ho2 := own_keepR ho1 hg2 hRl
        have hG2 := gb_trans hG1 hg2
        clear ho1 hG1 hg2 hz2 hR1
        obtain ⟨⟨s, z⟩, hx⟩ : ∃ p, ps[k1]? = some p := ⟨ps[k1]'(by rw [hl.out]; exact hk1n), List.getElem?_eq_getElem _⟩
        have n0 : x2.cell? ⟨g, k1 * 2, none⟩ = some (.string s) := own_pileC (j := 0) ho2 hx hk1n (by omega)
        have n1 : x2.cell? ⟨g, k1 * 2 + 1, none⟩ = some (.int .i64 z) := own_pileC (j := 1) ho2 hx hk1n (by omega)
        have f0 := ho2.frozenAt (k1 * 2)
        have f1 := ho2.frozenAt (k1 * 2 + 1)
        have hk1' : (k1 : Int) < (N : Int) := by omega
        have hk10 : (0 : Int) ≤ (k1 : Int) := by omega
        have hRg : R < g := by omega
        have Hx := Lib.hid hx
        have hsx := Lib.hid (hz.out _ (List.mem_of_getElem? hx))
        clear hx
        rcases (by omega : p3 = 0 ∨ p3 = 1 ∨ p3 = 2 ∨ 2 < p3) with rfl | rfl | rfl | hp4
        · go_wp2_with fail
          have hal := gb_alloc (gb_refl x2 none) (.cells #[.int .i64 0, .int .i64 99, .int .i64 100] 3)
          have hBn := Blk.new x2 3 #[.int .i64 0, .int .i64 99, .int .i64 100]
          have hwz := hG2.size
          refine (c_pick _ _ _ _ (hR2.grown hal (by simp)) (by omega) (by omega) (by omega)).mono ?_
          rintro e x3 ⟨p5, hp5, rfl, hR3, hg3, hz3⟩
          have hB3 := hBn.grown hg3 (by simp; omega)
          have hG3 := gb_trans hG2 (gb_trans (gb_mono hal (some R)) hg3)
          have ho3 := own_keepR (own_below ho2 hal) hg3 hRl
          have m1 := gb_cell hg3 (gb_cell hal n1 (by simp)) (by simp; omega)
          have f3 := ho3.frozenAt (k1 * 2 + 1)
          have b0 := hB3.cell 0
          have b1 := hB3.cell 1
          have b2 := hB3.cell 2
          clear hal hBn hg3 ho2 n0 n1 f0 f1 hz3 hB3 hR2 hG2
          have hend : ∀ (z' : Int) (y : World), y = x3.setCell ⟨g, k1 * 2 + 1, none⟩ (.int .i64 z') → DrawnPls R m w (.returned (.slice (some ⟨g, 0, none⟩) N c)) y := by
            rintro z' y rfl
            obtain ⟨ho4, hg4⟩ := own_setPile (j := 1) (p' := (s, z')) (u := .int .i64 z') ho3 Hx.out (by omega) rfl
            have hll : (ps.set k1 (s, z')).length = N := by rw [List.length_set]; exact hl.out
            exact ⟨_, c, ps.set k1 (s, z'), by rw [hll], by rw [hll]; exact ho4, ⟨by omega, fun p hp => by
              rcases List.mem_or_eq_of_mem_set hp with hp | rfl
              · exact hz.out p hp
              · exact hsx.out⟩, (hR3.grown hg4 (by intro k e; injection e with e; omega)).mono (by omega), gb_setCell hG3 (.inr hgl) _⟩
          have Hend := Lib.hid hend
          clear hend ho3 hR3 hG3
          rcases (by omega : p5 = 0 ∨ p5 = 1 ∨ p5 = 2) with rfl | rfl | rfl
          all_goals
            go_wp2
            go_ret
            exact Hend.out _ _ rfl
        · have hwz2 := hG2.size
          go_wp2_with (at_builtin; refine wpList_app pileE rfl _ _ rfl w.heap.size N _ _ rfl ho2 [_, _] rfl rfl (by simp [Value.oneCell']) (by omega) (by omega) hwz2 ?_; intro B' d' w7 hown7 hb7 hg7 hat7)
          have hR7 := hR2.grown hg7 (fun y e => by have := (ho2.lt y e).1; omega)
          have hG7 := gb_step hG2 hg7 (fun y e => .inr (ho2.lt y e).1)
          go_ret
          have hll : (ps ++ [(s, z)]).length = N + 1 := by rw [List.length_append, hl.out]; rfl
          exact ⟨B', d', _, by rw [hll]; rfl, by rw [hll, cellsOf_append, cellsOf_one]; exact hown7, ⟨by omega, fun p hp => by
            rcases List.mem_append.1 hp with hp | hp
            · exact hz.out p hp
            · rw [List.mem_singleton.1 hp]; exact hsx.out⟩, hR7.mono (by omega), hG7⟩
        · go_wp2_with fail
          have hal := gb_alloc (gb_refl x2 none) (.cells #[.string ⟨#[97, 97]⟩, .string ⟨#[102]⟩, .string ⟨#[120]⟩] 9)
          have hBn := Blk.new x2 9 #[.string ⟨#[97, 97]⟩, .string ⟨#[102]⟩, .string ⟨#[120]⟩]
          have hwz := hG2.size
          have hS : Strs (x2.alloc (.cells #[.string ⟨#[97, 97]⟩, .string ⟨#[102]⟩, .string ⟨#[120]⟩] 9)) x2.heap.size (some ⟨x2.heap.size, 0, none⟩) 3 3 [⟨#[97, 97]⟩, ⟨#[102]⟩, ⟨#[120]⟩] :=
            Sl.own (own_of_blk (size := 1) (n := 3) hBn rfl (by omega) (Nat.le_refl _))
          refine (c_of R _ x2.heap.size _ 3 3 _ _ (hR2.grown hal (by simp)) (by omega) hS (by omega) (by omega) (by omega)).mono ?_
          rintro e x3 ⟨t, ht, rfl, hR3, hg3, hz3⟩
          have ht1 : t.size ≤ 100 := by
            simp at ht
            rcases ht with rfl | rfl | rfl <;> decide
          have hG3 := gb_trans hG2 (gb_trans (gb_mono hal (some R)) hg3)
          have ho3 := own_keepR (own_below ho2 hal) hg3 hRl
          have m0 := gb_cell hg3 (gb_cell hal n0 (by simp)) (by simp; omega)
          have f3 := ho3.frozenAt (k1 * 2)
          have Ht := Lib.hid ht1
          clear hal hBn hg3 ho2 n0 n1 f0 f1 hz3 hR2 hG2 hS ht ht1
          have hend : ∀ (y : World), y = x3.setCell ⟨g, k1 * 2, none⟩ (.string t) → DrawnPls R m w (.returned (.slice (some ⟨g, 0, none⟩) N c)) y := by
            rintro y rfl
            obtain ⟨ho4, hg4⟩ := own_setPile (j := 0) (p' := (t, z)) (u := .string t) ho3 Hx.out (by omega) rfl
            have hll : (ps.set k1 (t, z)).length = N := by rw [List.length_set]; exact hl.out
            exact ⟨_, c, ps.set k1 (t, z), by rw [hll], by rw [hll]; exact ho4, ⟨by omega, fun p hp => by
              rcases List.mem_or_eq_of_mem_set hp with hp | rfl
              · exact hz.out p hp
              · exact Ht.out⟩, (hR3.grown hg4 (by intro k e; injection e with e; omega)).mono (by omega), gb_setCell hG3 (.inr hgl) _⟩
          have Hend := Lib.hid hend
          clear hend ho3 hR3 hG3
          go_wp2
          go_ret
          exact Hend.out _ rfl
        · have q0 : ((p3 : Int) == 0) = false := by simp; omega
          have q1 : ((p3 : Int) == 1) = false := by simp; omega
          have q2 : ((p3 : Int) == 2) = false := by simp; omega
          go_wp2
          go_ret
          exact ⟨_, c, ps, by rw [hl.out]; rfl, by rw [hl.out]; exact ho2, ⟨by have := hl.out; omega, hz.out⟩, hR2.mono (by omega), hG2⟩
end Go.Proofs.YtipnalfkpalieaaDoor
