/-
  Two lists of batches, drawn: l93Returns of the reference.
-/
import Derived.Test.YtdhkhlemdlibfaaCopy
import Derived.Test.YtdhkhlemdlibfaaDrawBatch
import Derived.Test.YtdhkhlemdlibfaaLive
namespace Go.Proofs.Ytdhkhlemdlibfaa
open Go.RowKit
set_option linter.unusedVariables false

theorem Piles.keepAway {w w' : World} {lo n cap : Nat} {A : Option Addr} {ps : List Pl} {row : Option Nat} (h : Piles w lo A n cap ps) (hg : w.grownBy w' row) (ha : 0 < n → ∀ b, A = some b → row ≠ some b.block) : Piles w' lo A n cap ps :=
  ⟨h.1, h.2.1, h.2.2.1, fun hn => by
    obtain ⟨b, off, e1, hl, hb, hc⟩ := h.2.2.2 hn
    exact ⟨b, off, e1, hl, Nat.lt_of_lt_of_le hb hg.size, fun j u hu => gb_cell hg (hc j u hu) (fun e2 => ha hn _ e1 e2.symm)⟩⟩
theorem Recs.keepR {α : Type} {R : Rec α} {w w' : World} {lo n cap R0 : Nat} {A : Option Addr} {xs : List α} (h : Recs R w lo A n cap xs) (hg : w.grownBy w' (some R0)) (hR : R0 < lo) : Recs R w' lo A n cap xs := by
  obtain ⟨hs, hl, h1, h2⟩ := h
  exact ⟨hs, hl, h1.keep hg (fun k e => by injection e with e; omega), fun k x y hx hy => (h2 k x y hx hy).keepR hg hR⟩

/-- No pile of the batches lies in that block. -/
def Away (xs : List Bt) (hs : List Hd) (blk : Option Nat) : Prop := ∀ (k : Nat) (x : Bt) (h : Hd), xs[k]? = some x → hs[k]? = some h → 0 < x.2.2.length → ∀ b, h.1 = some b → blk ≠ some b.block
/-- Two lists of batches of the call's own, apart from each other. -/
structure Two (x : World) (L : Nat) (B : Option Addr) (j c : Nat) (xs : List Bt) (hs : List Hd) (B' : Option Addr) (j' c' : Nat) (ys : List Bt) (gs : List Hd) : Prop where
  one : ListRecs btRec 34 x L L B j c xs hs
  two : ListRecs btRec 34 x L L B' j' c' ys gs
  a12 : Away xs hs (Value.slice B' j' c').ownBlock
  a21 : Away ys gs (Value.slice B j c).ownBlock
  ne : ∀ g, (Value.slice B j c).ownBlock = some g → (Value.slice B' j' c').ownBlock ≠ some g
section
variable {x y : World} {L j c j' c' R0 : Nat} {B B' : Option Addr} {xs ys : List Bt} {hs gs : List Hd}
theorem Two.swap (h : Two x L B j c xs hs B' j' c' ys gs) : Two x L B' j' c' ys gs B j c xs hs := ⟨h.two, h.one, h.a21, h.a12, fun g e e' => h.ne g e' e⟩
theorem Two.keep (h : Two x L B j c xs hs B' j' c' ys gs) (hg : x.grownBy y none) : Two y L B j c xs hs B' j' c' ys gs := ⟨h.one.keep hg, h.two.keep hg, h.a12, h.a21, h.ne⟩
theorem Two.keepR (h : Two x L B j c xs hs B' j' c' ys gs) (hg : x.grownBy y (some R0)) (hR : R0 < L) : Two y L B j c xs hs B' j' c' ys gs := ⟨h.one.keepR hg hR hR, h.two.keepR hg hR hR, h.a12, h.a21, h.ne⟩
theorem Two.push (h : Two x L B j c xs hs B' j' c' ys gs) {A' : Option Addr} {c1 : Nat} {b : Bt} {d : Hd} (hown : y.ownsRow L 34 3 (.slice A' (j + 1) c1) (j + 1) (cellsOf btRec.cells (xs.zip hs) ++ btRec.cells (b, d)))
    (hg : x.grownBy y (Value.slice B j c).ownBlock) (hat : (Value.slice A' (j + 1) c1).ownBlock = (Value.slice B j c).ownBlock ∨ ∃ g, (Value.slice A' (j + 1) c1).ownBlock = some g ∧ x.heap.size ≤ g)
    (hp : Piles x L d.1 b.2.2.length d.2 b.2.2) (hd : 0 < b.2.2.length → ∀ q, d.1 = some q → (Value.slice B j c).ownBlock ≠ some q.block ∧ (Value.slice B' j' c').ownBlock ≠ some q.block) :
    Two y L A' (j + 1) c1 (xs ++ [b]) (hs ++ [d]) B' j' c' ys gs := by
  have hlen : xs.length = hs.length := h.one.len.symm
  refine ⟨h.one.push hown hg hat hp (fun hn q hq => (hd hn q hq).1), ⟨h.two.len, ?_, ?_, h.two.apart⟩, ?_, ?_, ?_⟩
  · exact own_kept h.two.row hg (fun k e => .inr (h.ne k e))
  · intro k z e hz he
    exact (h.two.piles k z e hz he).keepAway hg (fun hn q hq => h.a21 k z e hz he hn q hq)
  · intro k z e hz he hn q hq
    rcases snoc_at hz with ⟨h1, h2⟩ | ⟨h1, h2⟩
    · rcases snoc_at he with ⟨h3, h4⟩ | ⟨h3, h4⟩
      · exact h.a12 k z e h2 h4 hn q hq
      · omega
    · rcases snoc_at he with ⟨h3, h4⟩ | ⟨h3, h4⟩
      · omega
      · subst h2 h4
        exact (hd hn q hq).2
  · intro k z e hz he hn q hq
    rcases hat with h1 | ⟨g, h1, h2⟩
    · rw [h1]; exact h.a21 k z e hz he hn q hq
    · rw [h1]
      obtain ⟨b', off', e1, _, hb', _⟩ := (h.two.piles k z e hz he).2.2.2 hn
      rw [hq] at e1
      injection e1 with e1
      subst e1
      intro e2
      injection e2 with e2
      have hb' : b' < x.heap.size := hb'
      have e2 : g = b' := e2
      omega
  · intro g e
    rcases hat with h1 | ⟨g', h1, h2⟩
    · exact h.ne g (by rw [← h1]; exact e)
    · rw [h1] at e
      injection e with e
      intro e'
      have := (h.two.row.lt g e').2
      omega
end

theorem small_snoc {xs : List Bt} {id over : Int} {ps : List Pl} (h : ∀ b ∈ xs, SmallPls b.2.2) (hp : SmallPls ps) : ∀ b ∈ xs ++ [(id, over, ps)], SmallPls b.2.2 := by
  intro b hb
  rcases List.mem_append.1 hb with hb | hb
  · exact h b hb
  · rw [List.mem_singleton.1 hb]; exact hp

def RetRes (R : Nat) (w : World) (e : Ending) (w' : World) : Prop :=
  ∃ A1 c1 b1 A2 c2 b2, e = .returned (.tuple #[.slice A1 b1.length c1, .slice A2 b2.length c2]) ∧ Bats w' w.heap.size A1 b1.length c1 b1 ∧ Bats w' w.heap.size A2 b2.length c2 b2 ∧ b1.length ≤ 9 ∧ b2.length ≤ 9 ∧ (∀ b ∈ b1, SmallPls b.2.2) ∧ (∀ b ∈ b2, SmallPls b.2.2) ∧ w.grownBy w' (some R)

set_option maxRecDepth 100000 in
set_option maxHeartbeats 4000000 in
theorem c_l93Returns (R m : Nat) (w : World) (h : Rdr w R m) (hm : m ≤ 600000) :
    Calls Try.prog 21 #[.pointer (some ⟨R, 0, none⟩)] w (RetRes R w) := by
  have hRl := h.lt
  go_enter Try.func21, Try.ntmps21
  go_wp2_with fail
  refine (c_l93Batches R m w h (by omega)).mono ?_
  rintro e w1 ⟨A, c, bs, rfl, hbs, hl, hs, hR1, hg1⟩
  have hlc := hbs.le
  have hcm := hbs.max
  have Hs := Lib.hid hs
  obtain ⟨n, hn⟩ : ∃ n, bs.length = n := ⟨_, rfl⟩
  have Hn := Lib.hid hn
  rw [hn] at hbs hl hlc
  rw [hn]
  clear hn hs
  go_wp2_with fail
  refine (c_pick _ _ _ _ hR1 (by omega) (by omega) (by omega)).mono ?_
  rintro e w2 ⟨p, hp, rfl, hR2, hg2, hz2⟩
  clear hz2
  have hG2 := gb_trans hg1 hg2
  have hb2 := Recs.keepR hbs hg2 hRl
  by_cases hp0 : p = 0
  · subst hp0
    go_wp2_with fail
    refine (c_l93Batches R _ w2 hR2 (by omega)).mono ?_
    rintro e w3 ⟨A3, c3, bs3, rfl, hbs3, hl3, hs3, hR3, hg3⟩
    have hb3 := (Recs.keepR hb2 hg3 hRl)
    have hb3' := hbs3.mono hG2.size
    have Hs3 := Lib.hid hs3
    have hG3 := gb_trans hG2 hg3
    obtain ⟨n3, hn3⟩ : ∃ n, bs3.length = n := ⟨_, rfl⟩
    have Hn3 := Lib.hid hn3
    rw [hn3] at hb3' hl3
    rw [hn3]
    clear hn3 hs3 hbs3
    go_wp2
    go_ret2
    exact ⟨A, c, bs, A3, c3, bs3, by rw [Hn.out, Hn3.out]; rfl, by rw [Hn.out]; exact hb3, by rw [Hn3.out]; exact hb3', by rw [Hn.out]; exact hl, by rw [Hn3.out]; exact hl3, Hs.out, Hs3.out, hG3⟩
  · have hpb : ((p : Int) == 0) = false := by simp; omega
    have hwz := hG2.size
    have hwz1 : w1.heap.size ≤ w2.heap.size := hg2.size
    have hwz1 : w1.heap.size ≤ w2.heap.size := hg2.size
    have hRL : R < w2.heap.size := Nat.lt_of_lt_of_le hRl hwz
    have hT0 : Two ((w2.alloc (.cells #[] 34)).alloc (.cells #[] 34)) w2.heap.size (some ⟨w2.heap.size, 0, none⟩) 0 0 [] [] (some ⟨w2.heap.size + 1, 0, none⟩) 0 0 [] [] := by
      have h1 := ListRecs.empty btRec 34 w2 w2.heap.size w2.heap.size (Nat.le_refl _)
      have h2 := ListRecs.empty btRec 34 (w2.alloc (.cells #[] 34)) w2.heap.size w2.heap.size (by simp)
      rw [World.size_alloc] at h2
      refine ⟨h1.keep (gb_alloc (gb_refl _ _) _), h2, fun k x d hx => by simp at hx, fun k x d hx => by simp at hx, fun g e e' => ?_⟩
      have e1 : w2.heap.size = g := by simpa [Value.ownBlock] using e
      have e2 : w2.heap.size + 1 = g := by simpa [Value.ownBlock] using e'
      omega
    have hgw2 : w1.grownBy ((w2.alloc (.cells #[] 34)).alloc (.cells #[] 34)) (some R) := gb_alloc (gb_alloc hg2 _) _
    have hR2' : Rdr ((w2.alloc (.cells #[] 34)).alloc (.cells #[] 34)) R (m + 30002) := ((hR2.alloc _).alloc _).mono (by omega)
    go_wp2
    go_loopw [5, 6, 7] (fun v5 v6 i x => ∃ (k j5 c5 j6 c6 : Nat) (B5 B6 : Option Addr) (xs ys : List Bt) (hs gs : List Hd), k ≤ n ∧ j5 ≤ k ∧ j6 ≤ k ∧ i = .int .i64 (k : Int) ∧ v5 = .slice B5 j5 c5 ∧ v6 = .slice B6 j6 c6 ∧ Two x w2.heap.size B5 j5 c5 xs hs B6 j6 c6 ys gs ∧ w1.grownBy x (some R) ∧ w2.heap.size ≤ x.heap.size ∧ Rdr x R (m + 30002 + 2 * k) ∧ Hid (∀ b ∈ xs, SmallPls b.2.2) ∧ Hid (∀ b ∈ ys, SmallPls b.2.2)) (fun _ _ i _ => n - (intOf i).toNat)
    case atStart => exact ⟨0, 0, 0, 0, 0, _, _, [], [], [], [], Nat.zero_le _, Nat.le_refl _, Nat.le_refl _, rfl, rfl, rfl, hT0, hgw2, by simp; omega, hR2', Lib.hid (by intro b hb; cases hb), Lib.hid (by intro b hb; cases hb)⟩
    case round =>
      clear hT0 hgw2 hR2'
      obtain ⟨k, j5, c5, j6, c6, B5, B6, xs, ys, hs, gs, hk, hj5, hj6, rfl, rfl, rfl, hT, hG, hzx, hR, hxs, hys⟩ := hrel
      rename World => x
      by_cases hlt : k < n
      · go_wp2_with fail
        refine (c_pick _ _ _ _ hR (by omega) (by omega) (by omega)).mono ?_
        rintro e x1 ⟨q, hq, rfl, hR1, hgp, hzp⟩
        have hT1 := hT.keepR hgp hRL
        have hG1 := gb_trans hG hgp
        have hzx1 : w2.heap.size ≤ x1.heap.size := by omega
        obtain ⟨b, off, id, over, ps, A', c', rfl, hpk, hps, m0, m1, m2⟩ := Bats.at_ (Recs.keepR hbs hG1 hRl) hlt
        have hk' : (k : Int) < (n : Int) := by omega
        have hk0 : (0 : Int) ≤ (k : Int) := by omega
        have hsp : Hid (SmallPls ps) := Lib.hid (Hs.out _ (List.mem_of_getElem? hpk.out))
        obtain ⟨N, hN⟩ : ∃ N, ps.length = N := ⟨_, rfl⟩
        have HN := Lib.hid hN
        have hN12 : N ≤ 12 := by rw [← hN]; exact hsp.out.1
        rw [hN] at hps m2
        clear hN hT hG hR hgp hzp
        rcases (by omega : q = 0 ∨ q = 1 ∨ q = 2) with rfl | rfl | rfl
        · go_wp2_with fail
          refine (c_l43Copy _ A' c' id over N ps x1 hps (by omega)).mono ?_
          rintro e y1 ⟨D1, d1, rfl, hgy1, ho1⟩
          have hTy1 := hT1.keep hgy1
          have hzy1 : w2.heap.size ≤ y1.heap.size := Nat.le_trans hzx1 hgy1.size
          have hGy1 := gb_trans hG1 (gb_mono hgy1 (some R))
          have hRy1 := hR1.grown hgy1 (by simp)
          go_wp2_with (at_builtin; refine wpList_app batchE rfl _ _ rfl w2.heap.size j5 _ _ rfl hTy1.one.row [_, _, _] rfl rfl (by simp [Value.oneCell']) (by omega) (by omega) hzy1 ?_; intro E1 e1 z1 hown1 hb1 hg1 hat1)
          have hTz1 : Two z1 w2.heap.size E1 (j5 + 1) e1 (xs ++ [(id, over, ps)]) (hs ++ [(D1, d1)]) B6 j6 c6 ys gs := hTy1.push (b := (id, over, ps)) (d := (D1, d1)) (by rw [show btRec.cells ((id, over, ps), (D1, d1)) = [.int .i64 id, .int .i64 over, .slice D1 N d1] from by rw [← HN.out]; rfl]; exact hown1) hg1 hat1 (by show Piles y1 w2.heap.size D1 ps.length d1 ps; rw [HN.out]; exact (Sl.own ho1).mono hzx1) (fun hn q hq => by
              have hq : D1 = some q := hq
              have h1 := (ho1.lt q.block (by rw [hq]; rfl)).1
              exact ⟨fun e => by have := (hT1.one.row.lt _ e).2; omega, fun e => by have := (hT1.two.row.lt _ e).2; omega⟩)
          have hGz1 : w1.grownBy z1 (some R) := gb_step hGy1 hg1 (fun g e => .inr (by have := (hTy1.one.row.lt g e).1; have := hwz1; omega))
          have hzz1 : w2.heap.size ≤ z1.heap.size := Nat.le_trans hzy1 hg1.size
          have hRz1 := hRy1.grown hg1 (fun g e => by have := (hTy1.one.row.lt g e).1; omega)
          go_roundw
          case rel =>
            exact ⟨k + 1, j5 + 1, e1, j6, c6, _, _, _, _, _, _, by omega, by omega, by omega, by go_num, rfl, rfl, hTz1, hGz1, hzz1, hRz1.mono (by omega), Lib.hid (small_snoc hxs.out hsp.out), hys⟩
          case measure => simp [intOf]; omega
        · go_wp2_with fail
          refine (c_l43Copy _ A' c' id over N ps x1 hps (by omega)).mono ?_
          rintro e y1 ⟨D1, d1, rfl, hgy1, ho1⟩
          have hTy1 := hT1.swap.keep hgy1
          have hzy1 : w2.heap.size ≤ y1.heap.size := Nat.le_trans hzx1 hgy1.size
          have hGy1 := gb_trans hG1 (gb_mono hgy1 (some R))
          have hRy1 := hR1.grown hgy1 (by simp)
          go_wp2_with (at_builtin; refine wpList_app batchE rfl _ _ rfl w2.heap.size j6 _ _ rfl hTy1.one.row [_, _, _] rfl rfl (by simp [Value.oneCell']) (by omega) (by omega) hzy1 ?_; intro E1 e1 z1 hown1 hb1 hg1 hat1)
          have hTz1 : Two z1 w2.heap.size E1 (j6 + 1) e1 (ys ++ [(id, over, ps)]) (gs ++ [(D1, d1)]) B5 j5 c5 xs hs := hTy1.push (b := (id, over, ps)) (d := (D1, d1)) (by rw [show btRec.cells ((id, over, ps), (D1, d1)) = [.int .i64 id, .int .i64 over, .slice D1 N d1] from by rw [← HN.out]; rfl]; exact hown1) hg1 hat1 (by show Piles y1 w2.heap.size D1 ps.length d1 ps; rw [HN.out]; exact (Sl.own ho1).mono hzx1) (fun hn q hq => by
              have hq : D1 = some q := hq
              have h1 := (ho1.lt q.block (by rw [hq]; rfl)).1
              exact ⟨fun e => by have := (hT1.swap.one.row.lt _ e).2; omega, fun e => by have := (hT1.swap.two.row.lt _ e).2; omega⟩)
          have hGz1 : w1.grownBy z1 (some R) := gb_step hGy1 hg1 (fun g e => .inr (by have := (hTy1.one.row.lt g e).1; have := hwz1; omega))
          have hzz1 : w2.heap.size ≤ z1.heap.size := Nat.le_trans hzy1 hg1.size
          have hRz1 := hRy1.grown hg1 (fun g e => by have := (hTy1.one.row.lt g e).1; omega)
          go_roundw
          case rel =>
            exact ⟨k + 1, j5, c5, j6 + 1, e1, _, _, _, _, _, _, by omega, by omega, by omega, by go_num, rfl, rfl, hTz1.swap, hGz1, hzz1, hRz1.mono (by omega), hxs, Lib.hid (small_snoc hys.out hsp.out)⟩
          case measure => simp [intOf]; omega
        · go_wp2_with fail
          refine (c_l43Copy _ A' c' id over N ps x1 hps (by omega)).mono ?_
          rintro e y1 ⟨D1, d1, rfl, hgy1, ho1⟩
          have hTy1 := hT1.keep hgy1
          have hzy1 : w2.heap.size ≤ y1.heap.size := Nat.le_trans hzx1 hgy1.size
          have hGy1 := gb_trans hG1 (gb_mono hgy1 (some R))
          have hRy1 := hR1.grown hgy1 (by simp)
          go_wp2_with (at_builtin; refine wpList_app batchE rfl _ _ rfl w2.heap.size j5 _ _ rfl hTy1.one.row [_, _, _] rfl rfl (by simp [Value.oneCell']) (by omega) (by omega) hzy1 ?_; intro E1 e1 z1 hown1 hb1 hg1 hat1; have hGz1 : w1.grownBy z1 (some R) := gb_step hGy1 hg1 (fun g e => .inr (by have := (hTy1.one.row.lt g e).1; have := hwz1; omega)); obtain ⟨bq, offq, idq, overq, psq, A2', c2', he, hpq, hps2, n0, n1, n2⟩ := Bats.at_ (Recs.keepR hbs hGz1 hRl) hlt; injection he with he; injection he with he1 he2; subst he1 he2; have hsame := hpq.out.symm.trans hpk.out; injection hsame with hsame; injection hsame with hs1 hsame; injection hsame with hs2 hs3; subst hs1 hs2 hs3; rw [HN.out] at hps2 n2)
          have hTz1 : Two z1 w2.heap.size E1 (j5 + 1) e1 (xs ++ [(idq, overq, psq)]) (hs ++ [(D1, d1)]) B6 j6 c6 ys gs := hTy1.push (b := (idq, overq, psq)) (d := (D1, d1)) (by rw [show btRec.cells ((idq, overq, psq), (D1, d1)) = [.int .i64 idq, .int .i64 overq, .slice D1 N d1] from by rw [← HN.out]; rfl]; exact hown1) hg1 hat1 (by show Piles y1 w2.heap.size D1 psq.length d1 psq; rw [HN.out]; exact (Sl.own ho1).mono hzx1) (fun hn q hq => by
              have hq : D1 = some q := hq
              have h1 := (ho1.lt q.block (by rw [hq]; rfl)).1
              exact ⟨fun e => by have := (hT1.one.row.lt _ e).2; omega, fun e => by have := (hT1.two.row.lt _ e).2; omega⟩)
          have hzz1 : w2.heap.size ≤ z1.heap.size := Nat.le_trans hzy1 hg1.size
          have hRz1 := hRy1.grown hg1 (fun g e => by have := (hTy1.one.row.lt g e).1; omega)
          refine (c_l43Copy _ A2' c2' idq overq N psq z1 hps2 (by omega)).mono ?_
          rintro e y2 ⟨D2, d2, rfl, hgy2, ho2⟩
          have hTy2 := hTz1.swap.keep hgy2
          have hzy2 : w2.heap.size ≤ y2.heap.size := Nat.le_trans hzz1 hgy2.size
          have hGy2 := gb_trans hGz1 (gb_mono hgy2 (some R))
          have hRy2 := hRz1.grown hgy2 (by simp)
          go_wp2_with (at_builtin; refine wpList_app batchE rfl _ _ rfl w2.heap.size j6 _ _ rfl hTy2.one.row [_, _, _] rfl rfl (by simp [Value.oneCell']) (by omega) (by omega) hzy2 ?_; intro E2 e2 z2 hown2 hb2 hg2 hat2)
          have hTz2 : Two z2 w2.heap.size E2 (j6 + 1) e2 (ys ++ [(idq, overq, psq)]) (gs ++ [(D2, d2)]) E1 (j5 + 1) e1 (xs ++ [(idq, overq, psq)]) (hs ++ [(D1, d1)]) := hTy2.push (b := (idq, overq, psq)) (d := (D2, d2)) (by rw [show btRec.cells ((idq, overq, psq), (D2, d2)) = [.int .i64 idq, .int .i64 overq, .slice D2 N d2] from by rw [← HN.out]; rfl]; exact hown2) hg2 hat2 (by show Piles y2 w2.heap.size D2 psq.length d2 psq; rw [HN.out]; exact (Sl.own ho2).mono hzz1) (fun hn q hq => by
              have hq : D2 = some q := hq
              have h1 := (ho2.lt q.block (by rw [hq]; rfl)).1
              exact ⟨fun e => by have := (hTz1.swap.one.row.lt _ e).2; omega, fun e => by have := (hTz1.swap.two.row.lt _ e).2; omega⟩)
          have hGz2 : w1.grownBy z2 (some R) := gb_step hGy2 hg2 (fun g e => .inr (by have := (hTy2.one.row.lt g e).1; have := hwz1; omega))
          have hzz2 : w2.heap.size ≤ z2.heap.size := Nat.le_trans hzy2 hg2.size
          have hRz2 := hRy2.grown hg2 (fun g e => by have := (hTy2.one.row.lt g e).1; omega)
          go_roundw
          case rel =>
            exact ⟨k + 1, j5 + 1, e1, j6 + 1, e2, _, _, _, _, _, _, by omega, by omega, by omega, by go_num, rfl, rfl, hTz2.swap, hGz2, hzz2, hRz2.mono (by omega), Lib.hid (small_snoc hxs.out hsp.out), Lib.hid (small_snoc hys.out hsp.out)⟩
          case measure => simp [intOf]; omega
      · obtain rfl : k = n := by omega
        have hlx := Lib.hid hT.one.xlen
        have hly := Lib.hid hT.two.xlen
        have hb5 := (hT.one.recs (Nat.le_refl _)).mono hwz
        have hb6 := (hT.two.recs (Nat.le_refl _)).mono hwz
        have hGf := gb_trans hg1 hG
        clear hT hR hG
        go_wp2
        go_ret2
        exact ⟨B5, c5, xs, B6, c6, ys, by rw [hlx.out, hly.out]; rfl, by rw [hlx.out]; exact hb5, by rw [hly.out]; exact hb6, by rw [hlx.out]; omega, by rw [hly.out]; omega, hxs.out, hys.out, hGf⟩
end Go.Proofs.Ytdhkhlemdlibfaa
