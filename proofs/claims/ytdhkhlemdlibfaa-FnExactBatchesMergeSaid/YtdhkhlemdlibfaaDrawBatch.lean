/-
  A drawn return: spec.l93Batches.
-/
import Derived.Test.YtdhkhlemdlibfaaPilesAdd
import Derived.Test.YtdhkhlemdlibfaaOwn
import Derived.Test.YtdhkhlemdlibfaaLive
import Derived.Test.YtdhkhlemdlibfaaDrawBallot
import Derived.Test.YtdhkhlemdlibfaaDrawNode
namespace Go.Proofs.Ytdhkhlemdlibfaa
open Go.RowKit
set_option linter.unusedVariables false

/-- Small piles. -/
def SmallPls (ps : List Pl) : Prop := ps.length ≤ 12 ∧ ∀ p ∈ ps, p.1.size ≤ 100
theorem SmallPls.nil : SmallPls [] := ⟨Nat.zero_le _, by intro p hp; cases hp⟩
theorem SmallPls.add {ps : List Pl} {t : ByteArray} {m : Int} (h : SmallPls ps) (ht : t.size ≤ 100) : SmallPls (addRes ps t m) := by
  unfold addRes
  split
  · rename_i hok
    unfold addOK at hok
    rw [Bool.and_eq_true, pilesOK_iff (put ps t m)] at hok
    exact ⟨hok.2.2.2, put_sizes h.2 ht⟩
  · exact SmallPls.nil

/-- What the drawn region's operations leave. -/
def addFacts (R L : Nat) (g : Nat) (s : Value) : Nat → Value → World → Prop
  | 0 => fIs (.pointer (some ⟨g, 2, none⟩))
  | 1 => fIs s
  | 3 => fun v x => ∃ A c xs, v = .slice A xs.length c ∧ Ints x L A xs.length c xs ∧ xs.length ≤ 10
  | 4 => fVal fun v => ∃ t, v = .string t ∧ t.size ≤ 100
  | 2 | 5 => fIs (.pointer (some ⟨R, 0, none⟩))
  | 6 => fPick 9
  | 7 => fVal fun v => ∃ k : Int, v = .int .i64 k
  | 11 | 13 => fVal fun v => ∃ b, v = .bool b
  | 10 | 12 => fun v x => ∃ A c ps, v = .slice A ps.length c ∧ Piles x L A ps.length c ps ∧ SmallPls ps
  | _ => fun v x => ∃ A c ps b, v = .tuple #[.slice A ps.length c, .bool b] ∧ Piles x L A ps.length c ps ∧ SmallPls ps
theorem addFacts_kept (R L g : Nat) (hR : R < L) (s : Value) (n m K : Nat) (x y : World) (h : RT R m K n x y) : ∀ i v, addFacts R L g s i v x → addFacts R L g s i v y := by
  intro i v hv
  unfold addFacts at *
  split at hv
  all_goals first
    | exact hv
    | (obtain ⟨A, c, xs, e, hI, hl⟩ := hv; exact ⟨A, c, xs, e, hI.cellKeep h.1 hR, hl⟩)
    | (obtain ⟨A, c, ps, e, hI, hl⟩ := hv; exact ⟨A, c, ps, e, hI.keepR h.1 hR, hl⟩)
    | (obtain ⟨A, c, ps, b, e, hI, hl⟩ := hv; exact ⟨A, c, ps, b, e, hI.keepR h.1 hR, hl⟩)

/-- A batch that is being drawn lies in block G. -/
def BoxB (x : World) (L G : Nat) (id over : Int) (ps : List Pl) : Prop := ∃ A c, Blk x G 34 #[.int .i64 id, .int .i64 over, .slice A ps.length c] ∧ Piles x L A ps.length c ps ∧ SmallPls ps
theorem BoxB.keepR {x y : World} {L G R : Nat} {id over : Int} {ps : List Pl} (h : BoxB x L G id over ps) (hg : x.grownBy y (some R)) (hR : R < L) (hG : G ≠ R) : BoxB y L G id over ps := by
  obtain ⟨A, c, hB, hP, hS⟩ := h
  exact ⟨A, c, hB.grown hg (fun e => by injection e with e; exact hG e), hP.keepR hg hR, hS⟩
theorem own_addr0' {w : World} {lo e size n c : Nat} {A : Option Addr} {xs : List Value} (h : w.ownsRow lo e size (.slice A n c) n xs) (hn : 0 < n) : ∃ g, A = some ⟨g, 0, none⟩ ∧ lo ≤ g ∧ g < w.heap.size := by
  rcases h.2 with ⟨h1, h2⟩ | ⟨g, cap, cur, h1, hg, hh, _⟩
  · omega
  · injection h1 with h1
    exact ⟨g, h1, hg, Blk.lt hh⟩
/-- What a drawn return is. -/
def BatchesRes (R m : Nat) (w : World) (e : Ending) (w' : World) : Prop :=
  ∃ A c bs, e = .returned (.slice A bs.length c) ∧ Bats w' w.heap.size A bs.length c bs ∧ bs.length ≤ 9 ∧ (∀ b ∈ bs, SmallPls b.2.2) ∧ Rdr w' R (m + 30000) ∧ w.grownBy w' (some R)

attribute [local go_sem] flowAct flowOp_def flowUpon
set_option maxHeartbeats 4000000 in
theorem c_l93Batches (R m : Nat) (w : World) (h : Rdr w R m) (hm : m ≤ 800000) :
    Calls Try.prog 41 #[.pointer (some ⟨R, 0, none⟩)] w (BatchesRes R m w) := by
  have hRl := h.lt
  go_enter Try.func41, Try.ntmps41
  go_wp2
  go_loopw [3, 4] (fun v i wr => ∃ (k j : Nat) (B : Option Addr) (c : Nat) (zs : List Bt) (hs : List Hd), k ≤ 9 ∧ j ≤ 8 ∧ i = .int .i64 ((k + 1 : Nat) : Int) ∧ v = .slice B j c ∧ w.grownBy wr (some R) ∧ Rdr wr R (m + 1800 * k) ∧ ListRecs btRec 34 wr w.heap.size w.heap.size B j c zs hs ∧ Hid (∀ b ∈ zs, SmallPls b.2.2)) (fun _ i _ => 10 - (intOf i).toNat)
  case atStart => exact ⟨0, 0, _, _, [], [], Nat.zero_le _, Nat.zero_le _, rfl, rfl, gb_alloc (gb_refl _ _) _, (h.grown (gb_alloc (gb_refl _ none) _) (by simp)).mono (by omega), ListRecs.empty _ _ _ _ _ (Nat.le_refl _), Lib.hid (by intro b hb; cases hb)⟩
  case round =>
    obtain ⟨k, j, B, c, zs, hs, hk, hj8, rfl, rfl, hG, hR, hL, hz⟩ := hrel
    have hzl := Lib.hid hL.xlen
    obtain ⟨K, hK⟩ : ∃ K : Nat, k + 1 = K := ⟨_, rfl⟩
    have HK := Lib.hid hK
    have hK1 : 1 ≤ K := by omega
    rw [hK]
    clear hK
    by_cases hlt : K ≤ 9
    · go_wp2_with fail
      refine (c_pick _ _ _ _ hR (by omega) (by omega) (by omega)).mono ?_
      rintro e w1 ⟨p1, hp1, rfl, hR1, hg1, hz1⟩
      have hL1 := hL.keepR hg1 hRl hRl
      have hG1 := gb_trans hG hg1
      clear hL
      by_cases hp0 : p1 = 0 ∧ j < 8
      · obtain ⟨rfl, hj⟩ := hp0
        have hj' : (j : Int) < 8 := by omega
        go_wp2_with fail
        obtain ⟨w2, hw2⟩ : ∃ w2, (w1.alloc (.cells #[] 55)).alloc (.cells #[.int .i64 (K : Int), .int .i64 0, .slice (some ⟨wr.heap.size, 0, none⟩) 0 0] 34) = w2 := ⟨_, rfl⟩
        rw [hw2]
        have hg2 : w1.grownBy w2 none := by rw [← hw2]; exact gb_alloc (gb_alloc (gb_refl _ _) _) _
        have hbx : BoxB w2 (wr.heap.size + 2) (wr.heap.size + 1) K 0 [] := by
          refine ⟨some ⟨wr.heap.size, 0, none⟩, 0, ?_, Piles.nil _ _ _ _ (Nat.zero_le _), SmallPls.nil⟩
          rw [← hw2]
          have := Blk.new (w1.alloc (.cells #[] 55)) 34 #[.int .i64 (K : Int), .int .i64 0, .slice (some ⟨wr.heap.size, 0, none⟩) 0 0]
          rwa [show (w1.alloc (.cells #[] 55)).heap.size = wr.heap.size + 1 from by simp [hz1]] at this
        have hR2 := hR1.grown hg2 (by simp)
        have hwz := hG.size
        have hGR : wr.heap.size + 1 ≠ R := by omega
        have Hz1 := Lib.hid hz1
        clear hw2 hz1
        refine (c_pick _ _ _ _ hR2 (by omega) (by omega) (by omega)).mono ?_
        rintro e w3 ⟨mn, hmn, rfl, hR3, hg3, hz3⟩
        have hbx3 := hbx.keepR hg3 (by omega) hGR
        have hg13 := gb_trans (gb_mono hg2 (some R)) hg3
        have Hz3 := Lib.hid hz3
        obtain ⟨G, hGe⟩ : ∃ G, wr.heap.size + 1 = G := ⟨_, rfl⟩
        have HG := Lib.hid hGe
        rw [show wr.heap.size + 2 = wr.heap.size + 1 + 1 from rfl, hGe] at hbx3
        rw [hGe] at hGR
        rw [hGe]
        have hwG : w1.heap.size ≤ G := by have := Hz1.out; omega
        have hwG2 : w.heap.size ≤ G := by omega
        have hRG : R < G + 1 := by omega
        clear hbx hR2 hg2 hg3 hz3 hGe
        go_wp2
        go_loopw [7] (fun i x => ∃ (q : Nat) (ps : List Pl), q ≤ mn ∧ i = .int .i64 (q : Int) ∧ w1.grownBy x (some R) ∧ Rdr x R (m + 1800 * k + 2 + 450 * q) ∧ BoxB x (G + 1) G K 0 ps) (fun i _ => mn - (intOf i).toNat)
        case atStart => exact ⟨0, [], Nat.zero_le _, rfl, hg13, hR3.mono (by omega), hbx3⟩
        case round =>
          obtain ⟨q, ps, hq, rfl, hGx, hRx, hbx⟩ := hrel
          rename World => x0
          have Hbx := Lib.hid hbx
          by_cases hqm : q < mn
          · obtain ⟨A', c', hBk, hPl, hSm⟩ := hbx
            have Hsm := Lib.hid hSm
            have hqm' : (q : Int) < (mn : Int) := by omega
            have hwx := hGx.size
            have hGl := hBk.lt
            obtain ⟨N, hN⟩ : ∃ N, ps.length = N := ⟨_, rfl⟩
            have HN := Lib.hid hN
            rw [hN] at hBk hPl
            clear hN hSm
            have b2 := hBk.cell 2
            go_wp2_with fail
            refine wp_flow (by kernel_rfl) (by kernel_rfl) (RC x0 (some R) R (m + 1800 * k + 2 + 450 * q) 30) (RT R (m + 1800 * k + 2 + 450 * q) 30) (addFacts R x0.heap.size G (.slice A' N c')) (RC.start (gb_refl _ _) hRx 30) (fun n x y hT hC => RC.next (.inl rfl) hT hC) (fun n x y hT _ => addFacts_kept R x0.heap.size G hRx.lt _ n _ 30 x y hT) ?_ ?_
            · refine ⟨fun i u x hn hC hp => ?_, fun i u x hn hC hp => ?_, fun i u x hn hC hp => ?_, fun i u x hn hC hp => ?_, fun i u x hn hC hp => ?_, fun i u x hn hC hp => ?_, fun i u x hn hC hp => ?_, fun i u x hn hC hp => ?_, fun i u x hn hC hp => ?_, fun i u x hn hC hp => ?_, fun i u x hn hC hp => ?_, fun i u x hn hC hp => ?_, fun i u x hn hC hp => ?_, fun i u x hn hC hp => ?_, trivial⟩
              · simp [flowPreds, Region.binds, addFacts] at hp
                go_simp
                exact ⟨hC.same, rfl⟩
              · have e0 : u 0 = .pointer (some ⟨G, 2, none⟩) := hp 0 (by decide)
                have b2' := gb_cell hC.1 b2 (by simp; omega)
                clear hp
                go_simp
                exact ⟨hC.same, rfl⟩
              · go_simp
                exact ⟨hC.same, rfl⟩
              · have e2 : u 2 = .pointer (some ⟨R, 0, none⟩) := hp 2 (by decide)
                clear hp
                have hi : i < 14 := hn
                go_simp
                refine (c_l91Ballot R _ 2 x hC.rdr (by omega) (by omega) (by omega)).mono ?_
                rintro e y ⟨A1, c1, xs, rfl, ho, hall, hl, hRy, hgy, hzy⟩
                exact ⟨_, rfl, ⟨hgy, hRy.mono (by omega)⟩, A1, c1, xs, rfl, (Sl.own ho).mono hC.2.1, hl⟩
              · obtain ⟨A3, c3, xs, e3, hI, hl⟩ := (show ∃ A c xs, u 3 = .slice A xs.length c ∧ Ints x x0.heap.size A xs.length c xs ∧ xs.length ≤ 10 from hp 3 (by decide))
                clear hp
                go_simp
                refine (c_spec_BallotText _ A3 xs.length c3 xs x hI (by omega)).mono ?_
                rintro e y ⟨rfl, d, rfl⟩
                exact ⟨_, rfl, ⟨gb_drewN (gb_refl _ _) d, hC.same.2.grown (gb_drewN (gb_refl _ none) d) (by simp)⟩, _, rfl, ballotText_size xs hl⟩
              · go_simp
                exact ⟨hC.same, rfl⟩
              · have e5 : u 5 = .pointer (some ⟨R, 0, none⟩) := hp 5 (by decide)
                clear hp
                have hi : i < 14 := hn
                go_simp
                refine (c_pick R _ 9 x hC.rdr (by omega) (by omega) (by omega)).mono ?_
                rintro e y ⟨k9, hk9, rfl, hRy, hgy, hzy⟩
                exact ⟨_, rfl, ⟨hgy, hRy.mono (by omega)⟩, k9, by omega, rfl⟩
              · obtain ⟨k9, hk9, e6⟩ := (show ∃ k : Nat, k < 9 ∧ u 6 = .int .i64 (k : Int) from hp 6 (by decide))
                clear hp
                go_simp
                exact ⟨hC.same, _, rfl⟩
              · have e1 : u 1 = .slice A' N c' := hp 1 (by decide)
                obtain ⟨t, e4, ht⟩ := (show ∃ t, u 4 = .string t ∧ t.size ≤ 100 from hp 4 (by decide))
                obtain ⟨k7, e7⟩ := (show ∃ k : Int, u 7 = .int .i64 k from hp 7 (by decide))
                have hS := Hsm.out
                have hPx := hPl.keepR hC.1 hRG
                have hN12 : N ≤ 12 := by rw [← HN.out]; exact hS.1
                have Hs := Lib.hid (fun p hp => Nat.le_trans (hS.2 p hp) (by omega : 100 ≤ 2000000))
                have Hadd := Lib.hid (hS.add (m := k7) ht)
                clear hp hS
                go_simp
                refine (c_spec_PilesAdd _ A' N c' ps t k7 x hPx (by omega) Hs.out (by omega)).mono ?_
                rintro e y ⟨B1, c1, rfl, hgy, ho⟩
                exact ⟨_, rfl, ⟨gb_mono hgy _, hC.same.2.grown hgy (by simp)⟩, B1, c1, _, _, rfl, (Sl.own ho).mono hC.2.1, Hadd.out⟩
              · obtain ⟨A8, c8, p8, b8, e8, h8, s8⟩ := (show ∃ A c ps b, u 8 = .tuple #[.slice A ps.length c, .bool b] ∧ Piles x x0.heap.size A ps.length c ps ∧ SmallPls ps from hp 8 (by decide))
                clear hp
                go_simp
                exact ⟨hC.same, A8, c8, p8, b8, rfl, h8, s8⟩
              · obtain ⟨A8, c8, p8, b8, e8, h8, s8⟩ := (show ∃ A c ps b, u 9 = .tuple #[.slice A ps.length c, .bool b] ∧ Piles x x0.heap.size A ps.length c ps ∧ SmallPls ps from hp 9 (by decide))
                clear hp
                go_simp
                exact ⟨hC.same, A8, c8, p8, rfl, h8, s8⟩
              · obtain ⟨A8, c8, p8, b8, e8, h8, s8⟩ := (show ∃ A c ps b, u 9 = .tuple #[.slice A ps.length c, .bool b] ∧ Piles x x0.heap.size A ps.length c ps ∧ SmallPls ps from hp 9 (by decide))
                clear hp
                go_simp
                exact ⟨hC.same, b8, rfl⟩
              · obtain ⟨A8, c8, p8, e8, h8, s8⟩ := (show ∃ A c ps, u 10 = .slice A ps.length c ∧ Piles x x0.heap.size A ps.length c ps ∧ SmallPls ps from hp 10 (by decide))
                clear hp
                go_simp
                exact ⟨hC.same, A8, c8, p8, rfl, h8, s8⟩
              · obtain ⟨b8, e8⟩ := (show ∃ b, u 11 = .bool b from hp 11 (by decide))
                clear hp
                go_simp
                exact ⟨hC.same, b8, rfl⟩
            · intro i u x hn hC hp
              obtain ⟨A8, c8, p8, e8, h8, s8⟩ := (show ∃ A c ps, u 12 = .slice A ps.length c ∧ Piles x x0.heap.size A ps.length c ps ∧ SmallPls ps from hp 12 (by decide))
              obtain ⟨b8, e9⟩ := (show ∃ b, u 13 = .bool b from hp 13 (by decide))
              have hi : i ≤ 14 := hn
              have hGn := gb_trans hGx hC.1
              have hRn := hC.rdr
              have hBn := hBk.grown hC.1 (by simp; omega)
              have hbn := Hbx.out.keepR hC.1 hRG hGR
              have f2 := hBn.frozen 2
              have n2 := hBn.cell 2
              have S8 := Lib.hid s8
              have Hbn := Lib.hid hbn
              clear hp hC s8 hbn hBk hPl Hbx b2
              obtain ⟨M, hM⟩ : ∃ M, p8.length = M := ⟨_, rfl⟩
              have HM := Lib.hid hM
              rw [hM] at e8 h8
              clear hM
              cases b8 with
              | true =>
                go_simp
                go_wp2
                go_roundw
                case rel => exact ⟨q + 1, p8, by omega, by go_num, gb_setCell hGn (.inr hwG) _, (hRn.grown (gb_setCell (gb_refl _ (some G)) (.inl rfl) _) (by intro k e; injection e with e; omega)).mono (by omega), A8, c8, by rw [HM.out]; exact hBn.set_ 2 _, by rw [HM.out]; exact (h8.keepR (gb_setCell (gb_refl _ (some G)) (.inl rfl) _) hGl).mono hGl, S8.out⟩
                case measure => simp [intOf]; omega
              | false =>
                go_simp
                go_wp2
                go_roundw
                case rel => exact ⟨q + 1, ps, by omega, by go_num, hGn, hRn.mono (by omega), Hbn.out⟩
                case measure => simp [intOf]; omega
          · obtain rfl : q = mn := by omega
            obtain ⟨A', c', hBk, hPl, hSm⟩ := hbx
            have Hsm := Lib.hid hSm
            obtain ⟨N, hN⟩ : ∃ N, ps.length = N := ⟨_, rfl⟩
            have HN := Lib.hid hN
            rw [hN] at hBk hPl
            clear hN hSm Hbx
            go_wp2_with fail
            refine (c_pick _ _ _ _ hRx (by omega) (by omega) (by omega)).mono ?_
            rintro e w4 ⟨p4, hp4, rfl, hR4, hg4, hz4⟩
            have hG4 := gb_trans hGx hg4
            have hB4 := hBk.grown hg4 (by simp; omega)
            have hP4 := hPl.keepR hg4 hRG
            clear hBk hPl hRx hGx hz4
            by_cases hov : p4 = 0 ∧ 1 < K
            · obtain ⟨rfl, hK2⟩ := hov
              have hK2' : (1 : Int) < (K : Int) := by omega
              go_wp2_with fail
              refine (c_pick _ _ _ _ hR4 (by omega) (by omega) (by omega)).mono ?_
              rintro e w5 ⟨p5, hp5, rfl, hR5, hg5, hz5⟩
              have hG5 := gb_trans hG4 hg5
              have hB5 := hB4.grown hg5 (by simp; omega)
              have hP5 := hP4.keepR hg5 hRG
              clear hB4 hP4 hR4 hG4 hz5
              have f1 := hB5.frozen 1
              have n0 := hB5.cell 0
              have n1 := hB5.cell 1
              have n2 := hB5.cell 2
              have hG6 := gb_setCell hG5 (.inr hwG) (p := ⟨G, 1, none⟩) (.int .i64 (1 + (p5 : Int)))
              have hg56 := gb_setCell (gb_refl w5 (some G)) (.inl rfl) (p := ⟨G, 1, none⟩) (.int .i64 (1 + (p5 : Int)))
              have hP6 := hP5.keepR hg56 (Nat.lt_succ_self G)
              have hR6 := hR5.grown hg56 (by intro k e; injection e with e; omega)
              clear hP5 hR5 hG5 hg56
              have hsz5 : (w5.setCell ⟨G, 1, none⟩ (.int .i64 (1 + (p5 : Int)))).heap.size = w5.heap.size := by simp [World.setCell]
              have hal := gb_alloc (gb_refl (w5.setCell ⟨G, 1, none⟩ (.int .i64 (1 + (p5 : Int)))) none) (.cells #[.int .i64 (K : Int), .int .i64 (1 + (p5 : Int)), .slice A' N c'] 34)
              have hBn := Blk.new (w5.setCell ⟨G, 1, none⟩ (.int .i64 (1 + (p5 : Int)))) 34 #[.int .i64 (K : Int), .int .i64 (1 + (p5 : Int)), .slice A' N c']
              rw [hsz5] at hBn
              have hG6 := gb_trans hG6 (gb_mono hal (some R))
              have hP6 := hP6.keep0 hal
              have hR6 := hR6.grown hal (by simp)
              clear hsz5 hal
              have hL6 := hL1.keepR hG6 hRl hRl
              have hwz6 : w.heap.size ≤ ((w5.setCell ⟨G, 1, none⟩ (.int .i64 (1 + (p5 : Int)))).alloc (.cells #[.int .i64 (K : Int), .int .i64 (1 + (p5 : Int)), .slice A' N c'] 34)).heap.size := Nat.le_trans (Nat.le_trans hG1.size (Nat.le_refl _)) hG6.size
              go_wp2_with (at_builtin; refine wpList_appB batchE rfl _ _ rfl w.heap.size j _ _ rfl hL6.row w5.heap.size [_, _, _] rfl hBn rfl (by simp [Value.oneCell']) (by omega) (by omega) hwz6 ?_; intro B' d' w7 hown7 hb7 hg7 hat7)
              have hL7 := hL6.push (x := ((K : Int), 1 + (p5 : Int), ps)) (d := (A', c')) (by rw [show btRec.cells (((K : Int), 1 + (p5 : Int), ps), (A', c')) = [.int .i64 (K : Int), .int .i64 (1 + (p5 : Int)), .slice A' N c'] from by rw [← HN.out]; rfl]; exact hown7) hg7 hat7 (by show Piles _ _ A' ps.length c' ps; rw [HN.out]; exact hP6.mono (by omega)) (apart_above hL1.row (by show Piles _ _ A' ps.length c' ps; rw [HN.out]; exact hP6) (by omega))
              have hR7 := hR6.grown hg7 (fun g e => by have := (hL6.row.lt g e).1; omega)
              have hG7 := gb_step (gb_trans hG1 hG6) hg7 (fun g e => .inr (hL6.row.lt g e).1)
              go_roundw
              case rel => exact ⟨K, j + 1, B', d', _, _, hlt, by omega, by go_num, rfl, hG7, hR7.mono (by have := HK.out; omega), hL7, Lib.hid (fun b hb => by
                rcases List.mem_append.1 hb with hb | hb
                · exact hz.out b hb
                · rw [List.mem_singleton.1 hb]; exact Hsm.out)⟩
              case measure => simp [intOf]; omega
            · have hov' : p4 ≠ 0 ∨ K = 1 := by omega
              have n0 := hB4.cell 0
              have n1 := hB4.cell 1
              have n2 := hB4.cell 2
              have hG6 := hG4
              have hP6 := hP4
              have hR6 := hR4
              clear hG4 hP4 hR4 hov
              rcases hov' with hov' | rfl
              · have hpb : ((p4 : Int) == 0) = false := by simpa using hov'
                have hL6 := hL1.keepR hG6 hRl hRl
                have hwz6 : w.heap.size ≤ w4.heap.size := Nat.le_trans (Nat.le_trans hG1.size (Nat.le_refl _)) hG6.size
                go_wp2_with (at_builtin; refine wpList_app batchE rfl _ _ rfl w.heap.size j _ _ rfl hL6.row [_, _, _] rfl rfl (by simp [Value.oneCell']) (by omega) (by omega) hwz6 ?_; intro B' d' w7 hown7 hb7 hg7 hat7)
                have hL7 := hL6.push (x := ((K : Int), 0, ps)) (d := (A', c')) (by rw [show btRec.cells (((K : Int), 0, ps), (A', c')) = [.int .i64 (K : Int), .int .i64 (0), .slice A' N c'] from by rw [← HN.out]; rfl]; exact hown7) hg7 hat7 (by show Piles _ _ A' ps.length c' ps; rw [HN.out]; exact hP6.mono (by omega)) (apart_above hL1.row (by show Piles _ _ A' ps.length c' ps; rw [HN.out]; exact hP6) (by omega))
                have hR7 := hR6.grown hg7 (fun g e => by have := (hL6.row.lt g e).1; omega)
                have hG7 := gb_step (gb_trans hG1 hG6) hg7 (fun g e => .inr (hL6.row.lt g e).1)
                go_roundw
                case rel => exact ⟨K, j + 1, B', d', _, _, hlt, by omega, by go_num, rfl, hG7, hR7.mono (by have := HK.out; omega), hL7, Lib.hid (fun b hb => by
                  rcases List.mem_append.1 hb with hb | hb
                  · exact hz.out b hb
                  · rw [List.mem_singleton.1 hb]; exact Hsm.out)⟩
                case measure => simp [intOf]; omega
              · have hov2 : p4 = 0 ∨ p4 ≠ 0 := by omega
                rcases hov2 with rfl | hov2
                · skip
                  have hL6 := hL1.keepR hG6 hRl hRl
                  have hwz6 : w.heap.size ≤ w4.heap.size := Nat.le_trans (Nat.le_trans hG1.size (Nat.le_refl _)) hG6.size
                  go_wp2_with (at_builtin; refine wpList_app batchE rfl _ _ rfl w.heap.size j _ _ rfl hL6.row [_, _, _] rfl rfl (by simp [Value.oneCell']) (by omega) (by omega) hwz6 ?_; intro B' d' w7 hown7 hb7 hg7 hat7)
                  have hL7 := hL6.push (x := (((1 : Nat) : Int), 0, ps)) (d := (A', c')) (by rw [show btRec.cells ((((1 : Nat) : Int), 0, ps), (A', c')) = [.int .i64 ((1 : Nat) : Int), .int .i64 (0), .slice A' N c'] from by rw [← HN.out]; rfl]; exact hown7) hg7 hat7 (by show Piles _ _ A' ps.length c' ps; rw [HN.out]; exact hP6.mono (by omega)) (apart_above hL1.row (by show Piles _ _ A' ps.length c' ps; rw [HN.out]; exact hP6) (by omega))
                  have hR7 := hR6.grown hg7 (fun g e => by have := (hL6.row.lt g e).1; omega)
                  have hG7 := gb_step (gb_trans hG1 hG6) hg7 (fun g e => .inr (hL6.row.lt g e).1)
                  go_roundw
                  case rel => exact ⟨1, j + 1, B', d', _, _, hlt, by omega, by go_num, rfl, hG7, hR7.mono (by have := HK.out; omega), hL7, Lib.hid (fun b hb => by
                    rcases List.mem_append.1 hb with hb | hb
                    · exact hz.out b hb
                    · rw [List.mem_singleton.1 hb]; exact Hsm.out)⟩
                  case measure => simp [intOf]
                · have hpb : ((p4 : Int) == 0) = false := by simpa using hov2
                  have hL6 := hL1.keepR hG6 hRl hRl
                  have hwz6 : w.heap.size ≤ w4.heap.size := Nat.le_trans (Nat.le_trans hG1.size (Nat.le_refl _)) hG6.size
                  go_wp2_with (at_builtin; refine wpList_app batchE rfl _ _ rfl w.heap.size j _ _ rfl hL6.row [_, _, _] rfl rfl (by simp [Value.oneCell']) (by omega) (by omega) hwz6 ?_; intro B' d' w7 hown7 hb7 hg7 hat7)
                  have hL7 := hL6.push (x := (((1 : Nat) : Int), 0, ps)) (d := (A', c')) (by rw [show btRec.cells ((((1 : Nat) : Int), 0, ps), (A', c')) = [.int .i64 ((1 : Nat) : Int), .int .i64 (0), .slice A' N c'] from by rw [← HN.out]; rfl]; exact hown7) hg7 hat7 (by show Piles _ _ A' ps.length c' ps; rw [HN.out]; exact hP6.mono (by omega)) (apart_above hL1.row (by show Piles _ _ A' ps.length c' ps; rw [HN.out]; exact hP6) (by omega))
                  have hR7 := hR6.grown hg7 (fun g e => by have := (hL6.row.lt g e).1; omega)
                  have hG7 := gb_step (gb_trans hG1 hG6) hg7 (fun g e => .inr (hL6.row.lt g e).1)
                  go_roundw
                  case rel => exact ⟨1, j + 1, B', d', _, _, hlt, by omega, by go_num, rfl, hG7, hR7.mono (by have := HK.out; omega), hL7, Lib.hid (fun b hb => by
                    rcases List.mem_append.1 hb with hb | hb
                    · exact hz.out b hb
                    · rw [List.mem_singleton.1 hb]; exact Hsm.out)⟩
                  case measure => simp [intOf]
      · have hrel' : ∀ x, x = w1 → (∃ (k' j' : Nat) (B' : Option Addr) (c' : Nat) (zs' : List Bt) (hs' : List Hd), k' ≤ 9 ∧ j' ≤ 8 ∧ (.int .i64 ((K + 1 : Nat) : Int) : Value) = .int .i64 ((k' + 1 : Nat) : Int) ∧ (.slice B j c : Value) = .slice B' j' c' ∧ w.grownBy x (some R) ∧ Rdr x R (m + 1800 * k') ∧ ListRecs btRec 34 x w.heap.size w.heap.size B' j' c' zs' hs' ∧ Hid (∀ b ∈ zs', SmallPls b.2.2)) := by
          rintro x rfl
          exact ⟨K, j, B, c, zs, hs, hlt, hj8, rfl, rfl, hG1, hR1.mono (by have := HK.out; omega), hL1, hz⟩
        have Hrel := Lib.hid hrel'
        clear hrel'
        by_cases hp1' : p1 = 0
        · subst hp1'
          obtain rfl : j = 8 := by omega
          go_wp2
          go_roundw
          case rel => exact Hrel.out _ rfl
          case measure => simp [intOf]; omega
        · have hpb : ((p1 : Int) == 0) = false := by simpa using hp1'
          clear hp0
          go_wp2
          go_roundw
          case rel => exact Hrel.out _ rfl
          case measure => simp [intOf]; omega
    · have hR9 : Rdr wr R (m + 16200) := hR.mono (by omega)
      by_cases hj0 : j = 0
      · subst hj0
        have hzz : zs.length = 0 := hzl.out
        go_wp2
        go_ret
        exact ⟨B, c, zs, by rw [hzz]; rfl, by rw [hzz]; exact hL.recs (Nat.le_refl _), by omega, hz.out, hR9.mono (by omega), hG⟩
      · have hj1 : 1 ≤ j := by omega
        have hj1' : (0 : Int) < (j : Int) := by omega
        obtain ⟨g, hBg, hgl, hgh⟩ := own_addr0' hL.row hj1
        go_wp2_with fail
        refine (c_pick _ _ _ _ hR9 (by omega) (by omega) (by omega)).mono ?_
        rintro e w1 ⟨k1, hk1, rfl, hR1, hg1, hz1⟩
        have hk1n : k1 < j := by omega
        have Hz1 := Lib.hid hz1
        clear hz1
        go_wp2_with fail
        refine (c_pick _ _ _ _ hR1 (by omega) (by omega) (by omega)).mono ?_
        rintro e w2 ⟨p2, hp2, rfl, hR2, hg2, hz2⟩
        have Hz2 := Lib.hid hz2
        have hG2 := gb_trans hG (gb_trans hg1 hg2)
        have hL2 := (hL.keepR hg1 hRl hRl).keepR hg2 hRl hRl
        clear hz2 hL
        have hk1z : k1 < zs.length := by rw [hzl.out]; exact hk1n
        obtain ⟨⟨id, over, ps⟩, hx⟩ : ∃ b, zs[k1]? = some b := ⟨zs[k1], List.getElem?_eq_getElem hk1z⟩
        obtain ⟨⟨A', c'⟩, hd⟩ : ∃ d, hs[k1]? = some d := ⟨hs[k1]'(by rw [hL2.len]; exact hk1z), List.getElem?_eq_getElem _⟩
        subst hBg
        have n0 : w2.cell? ⟨g, k1 * 3, none⟩ = some (.int .i64 id) := hL2.cell (j := 0) rfl hx hd (by show 0 < 3; omega)
        have n1 : w2.cell? ⟨g, k1 * 3 + 1, none⟩ = some (.int .i64 over) := hL2.cell (j := 1) rfl hx hd (by show 1 < 3; omega)
        have n2 : w2.cell? ⟨g, k1 * 3 + 2, none⟩ = some (.slice A' ps.length c') := hL2.cell (j := 2) rfl hx hd (by show 2 < 3; omega)
        have f0 := hL2.row.frozenAt (k1 * 3)
        have f1 := hL2.row.frozenAt (k1 * 3 + 1)
        have hk1' : (k1 : Int) < (j : Int) := by omega
        have hk10 : (0 : Int) ≤ (k1 : Int) := by omega
        have hjc : j ≤ c := (Sl.own hL2.row).le
        have hcm : c ≤ 9223372036854775807 := (Sl.own hL2.row).max
        have hRg : R < g := by omega
        have Hx := Lib.hid hx
        have Hd := Lib.hid hd
        have hSx := Lib.hid (hz.out _ (List.mem_of_getElem? hx))
        obtain ⟨N, hN⟩ : ∃ N, ps.length = N := ⟨_, rfl⟩
        have HN := Lib.hid hN
        rw [hN] at n2
        clear hx hd hN
        rcases (by omega : p2 = 0 ∨ p2 = 1 ∨ p2 = 2 ∨ 2 < p2) with rfl | rfl | rfl | hp3
        · obtain ⟨hL3, hg3⟩ := hL2.setField (k := k1) (j := 1) (x := (id, over, ps)) (x' := (id, id, ps)) (u := .int .i64 id) rfl Hx.out (by show 1 < 2; omega) rfl rfl
          have hR3 := hR2.grown hg3 (by intro k e; injection e with e; omega)
          have hG3 := gb_setCell hG2 (p := ⟨g, k1 * 3 + 1, none⟩) (.inr hgl) (.int .i64 id)
          go_wp2
          go_ret
          exact ⟨_, c, zs.set k1 (id, id, ps), by rw [List.length_set, hzl.out]; rfl, by rw [List.length_set, hzl.out]; exact hL3.recs (Nat.le_refl _), by rw [List.length_set]; have := hzl.out; omega, fun b hb => by
            rcases List.mem_or_eq_of_mem_set hb with hb | rfl
            · exact hz.out b hb
            · exact hSx.out, hR3.mono (by omega), hG3⟩
        · have hpl := hL2.piles k1 _ _ Hx.out Hd.out
          have hap := hL2.apart k1 _ _ Hx.out Hd.out
          have Hpl := Lib.hid hpl
          have Hap := Lib.hid hap
          have hwz2 := hG2.size
          clear hpl hap
          go_wp2_with (at_builtin; refine wpList_app batchE rfl _ _ rfl w.heap.size j _ _ rfl hL2.row [_, _, _] rfl rfl (by simp [Value.oneCell']) (by omega) (by omega) hwz2 ?_; intro B' d' w7 hown7 hb7 hg7 hat7)
          have hL7 := hL2.push (x := (id, over, ps)) (d := (A', c')) (by rw [show btRec.cells ((id, over, ps), (A', c')) = [.int .i64 id, .int .i64 over, .slice A' N c'] from by rw [← HN.out]; rfl]; exact hown7) hg7 hat7 Hpl.out Hap.out
          have hR7 := hR2.grown hg7 (fun x e => by have := (hL2.row.lt x e).1; omega)
          have hG7 := gb_step hG2 hg7 (fun x e => .inr (hL2.row.lt x e).1)
          go_ret
          have hl7 : (zs ++ [((id, over, ps) : Bt)]).length = j + 1 := by rw [List.length_append, hzl.out]; rfl
          exact ⟨B', d', _, by rw [hl7]; rfl, by rw [hl7]; exact hL7.recs (Nat.le_refl _), by omega, fun b hb => by
            rcases List.mem_append.1 hb with hb | hb
            · exact hz.out b hb
            · rw [List.mem_singleton.1 hb]; exact hSx.out, hR7.mono (by omega), hG7⟩
        · go_wp2_with fail
          have hal := gb_alloc (gb_refl w2 none) (.cells #[.int .i64 0, .int .i64 99, .int .i64 100] 3)
          have hBn := Blk.new w2 3 #[.int .i64 0, .int .i64 99, .int .i64 100]
          have hw2z := hG2.size
          refine (c_pick _ _ _ _ (hR2.grown hal (by simp)) (by omega) (by omega) (by omega)).mono ?_
          rintro e w3 ⟨p3, hp3, rfl, hR3, hg3, hz3⟩
          have hB3 := hBn.grown hg3 (by simp; omega)
          have hG3 := gb_trans hG2 (gb_trans (gb_mono hal (some R)) hg3)
          have hL3 := (hL2.keep hal).keepR hg3 hRl hRl
          have m0 := gb_cell hg3 (gb_cell hal n0 (by simp)) (by simp; omega)
          have f3 := hL3.row.frozenAt (k1 * 3)
          have b0 := hB3.cell 0
          have b1 := hB3.cell 1
          have b2 := hB3.cell 2
          have Hz3 := Lib.hid hz3
          clear hal hBn hg3 hL2 n0 n1 n2 f0 f1 hz3 hB3 hR2 hG2
          have hend : ∀ (z : Int) (x : World), x = w3.setCell ⟨g, k1 * 3, none⟩ (.int .i64 z) → BatchesRes R m w (.returned (.slice (some ⟨g, 0, none⟩) j c)) x := by
            rintro z x rfl
            obtain ⟨hL4, hg4⟩ := hL3.setField (k := k1) (j := 0) (x := (id, over, ps)) (x' := (z, over, ps)) (u := .int .i64 z) rfl Hx.out (by show 0 < 2; omega) rfl rfl
            have hR4 := hR3.grown hg4 (by intro k e; injection e with e; omega)
            exact ⟨_, c, zs.set k1 (z, over, ps), by rw [List.length_set, hzl.out], by rw [List.length_set, hzl.out]; exact hL4.recs (Nat.le_refl _), by rw [List.length_set]; have := hzl.out; omega, fun b hb => by
              rcases List.mem_or_eq_of_mem_set hb with hb | rfl
              · exact hz.out b hb
              · exact hSx.out, hR4.mono (by omega), gb_setCell hG3 (p := ⟨g, k1 * 3, none⟩) (.inr hgl) _⟩
          have Hend := Lib.hid hend
          clear hend hL3 hR3 hG3
          rcases (by omega : p3 = 0 ∨ p3 = 1 ∨ p3 = 2) with rfl | rfl | rfl
          all_goals
            go_wp2
            go_ret
            exact Hend.out _ _ rfl
        · have q0 : ((p2 : Int) == 0) = false := by simp; omega
          have q1 : ((p2 : Int) == 1) = false := by simp; omega
          have q2 : ((p2 : Int) == 2) = false := by simp; omega
          go_wp2
          go_ret
          exact ⟨_, c, zs, by rw [hzl.out]; rfl, by rw [hzl.out]; exact hL2.recs (Nat.le_refl _), by have := hzl.out; omega, hz.out, hR2.mono (by omega), hG2⟩
end Go.Proofs.Ytdhkhlemdlibfaa
