/-
  PrecinctsGroup of the reference.
-/
import Derived.Test.YtifmljckmjnpfaaPctGroupS
namespace Go.Proofs.Ytifmljckmjnpfaa
open Go.RowKit
set_option linter.unusedVariables false

/-- Blocks from lo on are as they were. -/
def MidKeep (lo : Nat) (w w' : World) : Prop := w.heap.size ≤ w'.heap.size ∧ ∀ i, lo ≤ i → i < w.heap.size → w'.heap[i]? = w.heap[i]?
theorem MidKeep.refl (lo : Nat) (w : World) : MidKeep lo w w := ⟨Nat.le_refl _, fun _ _ _ => rfl⟩
theorem MidKeep.gb {lo : Nat} {w w' w'' : World} (h : MidKeep lo w w') (hg : w'.grownBy w'' none) : MidKeep lo w w'' :=
  ⟨Nat.le_trans h.1 hg.size, fun i h1 h2 => (hg.block i (Nat.lt_of_lt_of_le h2 h.1) (by simp)).trans (h.2 i h1 h2)⟩
theorem MidKeep.row {lo : Nat} {w w' w'' : World} {r : Option Nat} (h : MidKeep lo w w') (hg : w'.grownBy w'' r) (hr : ∀ g, r = some g → g < lo ∨ w.heap.size ≤ g) : MidKeep lo w w'' :=
  ⟨Nat.le_trans h.1 hg.size, fun i h1 h2 => (hg.block i (Nat.lt_of_lt_of_le h2 h.1) (fun e => by have := hr i e.symm; omega)).trans (h.2 i h1 h2)⟩
theorem Rd.mid {w w' : World} {lo size n : Nat} {A : Option Addr} {xs : List Value} (h : Rd w lo size A n xs) (hb : MidKeep lo w w') : Rd w' lo size A n xs :=
  ⟨h.1, fun hn => by
    obtain ⟨b, off, e, h1, h2, hc⟩ := h.2 hn
    refine ⟨b, off, e, h1, Nat.lt_of_lt_of_le h2 hb.1, fun j u hu => ?_⟩
    rw [World.cell?_of_block (a := ⟨b, off + j, none⟩) (hb.2 b h1 h2)]
    exact hc j u hu⟩
theorem Sl.mid {w w' : World} {lo size n cap : Nat} {A : Option Addr} {xs : List Value} (h : Sl w lo size A n cap xs) (hb : MidKeep lo w w') : Sl w' lo size A n cap xs := ⟨h.1, h.2.1, h.2.2.mid hb⟩
theorem IRows.mid {w w' : World} {lo n cap : Nat} {A : Option Addr} {yss : List Row} (h : IRows w lo A n cap yss) (hb : MidKeep lo w w') : IRows w' lo A n cap yss := by
  obtain ⟨hs, hl, h1, h2⟩ := h
  exact ⟨hs, hl, h1.mid hb, fun k x y hx hy => (h2 k x y hx hy).mid hb⟩
theorem groups_len_le {α : Type} (wt : α → Int) (least : Int) (xs : List α) : (groups wt least xs).length ≤ xs.length ∧ ∀ g ∈ groups wt least xs, g.length ≤ xs.length := by
  have hf := congrArg List.length (groups_flat wt least xs)
  have hne := groups_ne wt least xs
  have key : ∀ gs : List (List α), (∀ g ∈ gs, g ≠ []) → gs.length ≤ gs.flatten.length ∧ ∀ g ∈ gs, g.length ≤ gs.flatten.length := by
    intro gs
    induction gs with
    | nil => intro _; exact ⟨Nat.le_refl _, fun g h => by cases h⟩
    | cons x gs ih =>
      intro h
      obtain ⟨i1, i2⟩ := ih (fun g hg => h g (List.mem_cons_of_mem _ hg))
      have hx := List.length_pos_iff.2 (h x (by simp))
      rw [List.flatten_cons, List.length_append, List.length_cons]
      refine ⟨by omega, fun g hg => ?_⟩
      rcases List.mem_cons.1 hg with rfl | hg
      · omega
      · have := i2 g hg; omega
  obtain ⟨k1, k2⟩ := key _ hne
  rw [hf] at k1 k2
  exact ⟨k1, k2⟩

set_option maxHeartbeats 4000000 in
theorem c_spec_PrecinctsGroup (lo : Nat) (A : Option Addr) (n cap : Nat) (bs : List Pc) (least : Int) (w : World) (h : Pcts w lo A n cap bs) (hn : n ≤ 2000000) (hs : ∀ b ∈ bs, ∀ p ∈ b.2, p.1.size ≤ 2000000) :
    Calls Try.prog 19 #[.slice A n cap, .int .i64 least] w (TableRes (pgRes bs least) w) := by
  have hlc := h.le
  have hcm := h.max
  have hxl := Lib.hid h.len
  have Hs := Lib.hid hs
  clear hs
  obtain ⟨V, hV⟩ : ∃ V, pctsOK bs = V := ⟨_, rfl⟩
  have HV := Lib.hid hV
  clear hV
  obtain ⟨Y, hY⟩ : ∃ Y, inB least 1 99 = Y := ⟨_, rfl⟩
  have HY := Lib.hid hY
  clear hY
  have hga := gb_alloc (gb_refl w none) (.cells #[] 32)
  have hra := OwnRows.empty 3 32 w w.heap.size (Nat.le_refl _)
  have Hra := Lib.hid hra
  clear hra
  go_enter Try.func19, Try.ntmps19
  go_wp2_with fail
  refine (c_spec_PrecinctsValid lo A n cap bs _ (Recs.keep0 h hga) Hs.out).mono ?_
  rintro e w1 ⟨rfl, hg1⟩
  rw [HV.out]
  have hG1 := gb_trans hga hg1
  have hr1 := Hra.out.keep hg1
  have hz1 : w.heap.size + 1 ≤ w1.heap.size := by have := hg1.size; rw [World.size_alloc] at this; exact this
  clear hga hg1
  cases V with
  | false =>
    have hbad : pgRes bs least = [] := by rw [pgRes, pGroups, groupOK, HV.out]; rfl
    have Hbad := Lib.hid hbad
    clear hbad
    go_wp2
    go_ret
    exact ⟨_, 0, 0, [], rfl, hG1, by rw [Hbad.out]; exact hr1.wide (Nat.le_refl _) hz1⟩
  | true =>
    go_wp2_with fail
    refine (c_l6In _ _ _ _).mono ?_
    rintro e w2 ⟨rfl, rfl⟩
    rw [HY.out]
    cases Y with
    | false =>
      have hbad : pgRes bs least = [] := by rw [pgRes, pGroups, groupOK, HV.out, HY.out]; rfl
      have Hbad := Lib.hid hbad
      clear hbad
      go_wp2
      go_ret
      exact ⟨_, 0, 0, [], rfl, hG1, by rw [Hbad.out]; exact hr1.wide (Nat.le_refl _) hz1⟩
    | true =>
      have hl12 : 1 ≤ least ∧ least ≤ 99 := by simpa [inB] using HY.out
      have hn6 : n ≤ 6 := by have := pctsOK_len HV.out; have := hxl.out; omega
      have hgl : (giRes bs least).length ≤ n ∧ ∀ g ∈ giRes bs least, g.length ≤ n := by
        have h0 := groups_len_le (iWt bs) least (upTo bs.length)
        have h1 : (upTo bs.length).length = n := by rw [upTo_len, hxl.out]
        rw [h1] at h0
        exact h0
      have hgood : pgRes bs least = (giRes bs least).map (List.map fun i => (pcAt bs i).1) := by
        rw [pgRes, pGroups, groupOK, HV.out, HY.out]
        show (groups pcWt least bs).map _ = _
        rw [giRes_map, List.map_map]
        congr 1
        funext g
        simp
      have Hmem := Lib.hid (fun (g : Row) (i : Int) (hg : g ∈ giRes bs least) (hi : i ∈ g) => giRes_mem hg hi)
      have hcall := Lib.hid (c_l41Groups lo A n cap bs least w1 (Recs.keep0 h hG1) HV.out hl12.1 hl12.2)
      have Hgood := Lib.hid hgood
      have Hgl := Lib.hid hgl
      obtain ⟨gs, hgs⟩ : ∃ gs, giRes bs least = gs := ⟨_, rfl⟩
      rw [hgs] at hcall Hgood Hgl Hmem
      clear hgood hgl hgs hl12
      go_wp2_with fail
      refine hcall.out.mono ?_
      rintro e w3 ⟨B, m, c, hsB, rfl, hg3, hT⟩
      have hI3 := hT.irows
      have hml : m ≤ 6 := by have h1 := Hgl.out.1; have h2 := hI3.len; omega
      have Hml := Lib.hid hI3.len
      have hlcT := hI3.le
      have hcmT := hI3.max
      have hG3 := gb_trans hG1 hg3
      have hr3 := hr1.keep hg3
      have hz3 := hg3.size
      clear hT hcall hr1
      go_wp2
      go_loopw [5, 7] (fun v5 i wr => ∃ (k : Nat) (D : Option Addr) (d : Nat) (hs : List Hd), k ≤ m ∧ i = .int .i64 k ∧ v5 = .slice D k d ∧ w.grownBy wr none ∧ MidKeep w1.heap.size w3 wr ∧ OwnRows 3 32 wr w.heap.size wr.heap.size D k d ((gs.take k).map (List.map fun i => (pcAt bs i).1)) hs ∧ Hid (∀ g, (Value.slice D k d).ownBlock = some g → g < w1.heap.size ∨ w3.heap.size ≤ g)) (fun _ i _ => m - (intOf i).toNat)
      case atStart => exact ⟨0, _, 0, [], Nat.zero_le _, rfl, rfl, hG3, MidKeep.refl _ _, hr3.wide (Nat.le_refl _) (by omega), Lib.hid (fun g e => by
        have e : some w.heap.size = some g := e
        injection e with e
        left; omega)⟩
      case round =>
        obtain ⟨k, D, d, hs, hk, rfl, rfl, hG, hM, hrows, hblk⟩ := hrel
        rename World => wr
        clear hr3
        by_cases hlt : k < m
        · have hk' : (k : Int) < (m : Int) := by omega
          have hk0 : (0 : Int) ≤ (k : Int) := by omega
          obtain ⟨bT, oT, g, A2, c2, rfl, hgk, hI2, hcell⟩ := IRows.at_ (hI3.mid hM) hlt
          have hn2 : g.length ≤ 6 := by have h1 := Hgl.out.2 g (List.mem_of_getElem? hgk.out); omega
          have Hgm := Lib.hid (fun (i : Int) (hi : i ∈ g) => Hmem.out g i (List.mem_of_getElem? hgk.out) hi)
          have hlc2 := Sl.le hI2
          have hcm2 := Sl.max hI2
          obtain ⟨n2, hn2e⟩ : ∃ n2, g.length = n2 := ⟨_, rfl⟩
          have Hn2 := Lib.hid hn2e
          rw [hn2e] at hI2 hcell hn2 hlc2
          have hga2 := gb_alloc (gb_refl wr none) (.cells #[] 3)
          clear hn2e
          go_wp2
          go_loopw [8, 9] (fun v8 i x => ∃ (j : Nat) (E : Option Addr) (e : Nat), j ≤ n2 ∧ i = .int .i64 j ∧ v8 = .slice E j e ∧ wr.grownBy x none ∧ x.ownsRow wr.heap.size 3 1 (.slice E j e) j (((g.map fun i => (pcAt bs i).1).take j).map (Value.int .i64))) (fun _ i _ => n2 - (intOf i).toNat)
          case atStart => exact ⟨0, _, 0, Nat.zero_le _, rfl, rfl, hga2, own_empty _ _ _ _ (Nat.le_refl _)⟩
          case round =>
            obtain ⟨j, E, e, hj, rfl, rfl, hGx, hown⟩ := hrel
            rename World => x
            have hcellx := gb_cell hGx hcell (by simp)
            by_cases hjn : j < n2
            · obtain ⟨b2, o2, z, rfl, hz, hcz⟩ := Ints.at_ hI2 hjn
              have hczx := gb_cell hGx hcz (by simp)
              obtain ⟨q, hqn, rfl⟩ := Hgm.out z (List.mem_of_getElem? hz.out)
              rw [hxl.out] at hqn
              obtain ⟨b, off, id, ps, A', c', rfl, hp, hps, m0, m1⟩ := Pcts.at_ (Recs.keep0 h (gb_trans hG hGx)) hqn
              have hj' : (j : Int) < (n2 : Int) := by omega
              have hj0 : (0 : Int) ≤ (j : Int) := by omega
              have hq' : (q : Int) < (n : Int) := by omega
              have hq0 : (0 : Int) ≤ (q : Int) := by omega
              clear hps
              have hid : Hid ((g.map fun i => (pcAt bs i).1)[j]? = some id) := Lib.hid (by
                rw [List.getElem?_map, hz.out]
                show some (pcAt bs (q : Int)).1 = _
                rw [pcAt_of hp.out])
              have hzx := hGx.size
              go_wp2_with (at_builtin; refine wpList_app intE1 rfl _ _ rfl wr.heap.size j _ _ rfl hown [_] rfl rfl (by simp [Value.oneCell']) (by omega) (by omega) hzx ?_; intro D' d' w5 hown5 hb5 hg5 hat5)
              go_roundw
              case rel => exact ⟨j + 1, D', d', by omega, by go_num, rfl, gb_of_below ((gb_below hGx).trans hb5) none, by rw [take_succ_of hid.out, List.map_append]; exact hown5⟩
              case measure => simp [intOf]; omega
            · obtain rfl : j = n2 := by omega
              have hml : (g.map fun i => (pcAt bs i).1).length = j := by rw [List.length_map, Hn2.out]
              have hown0 : x.ownsRow wr.heap.size 3 1 (.slice E (g.map fun i => (pcAt bs i).1).length e) (g.map fun i => (pcAt bs i).1).length ((g.map fun i => (pcAt bs i).1).map (Value.int .i64)) := by
                rw [List.take_of_length_le (by omega)] at hown
                rw [hml]
                exact hown
              have hrx := hrows.keep hGx
              have Ho := Lib.hid hown0
              have hzx : w.heap.size ≤ x.heap.size := Nat.le_trans hG.size hGx.size
              have Hmm := Lib.hid hml
              have Hz := Lib.hid hG.size
              have Hzx := Lib.hid hGx.size
              clear hown hown0 hml
              go_wp2_with (at_builtin; refine wpList_app intsE rfl _ _ rfl w.heap.size k _ _ rfl hrx.row [_] rfl rfl (by simp [Value.oneCell']) (by omega) (by omega) hzx ?_; intro D' d' w5 hown5 hb5 hg5 hat5)
              have hpush := hrx.push (ys := g.map fun i => (pcAt bs i).1) (d := (E, e)) Ho.out Hz.out (by rw [Hmm.out]; exact hown5) hg5 hat5 Hzx.out
              have hM5 := (hM.gb hGx).row hg5 hblk.out
              go_roundw
              case rel => exact ⟨k + 1, D', d', _, by omega, by go_num, rfl, gb_of_below ((gb_below (gb_trans hG hGx)).trans hb5) none, hM5, by rw [take_succ_of hgk.out, List.map_append]; exact hpush, Lib.hid (fun y e => by
                rcases hat5 with e1 | ⟨z, e1, hz⟩
                · exact hblk.out y (e1.symm.trans e)
                · have e := e1.symm.trans e
                  injection e with e
                  have h1 := Hzx.out
                  have h2 := hM.1
                  right; omega)⟩
              case measure => simp [intOf]; omega
        · obtain rfl : k = m := by omega
          have hfin : (gs.take k).map (List.map fun i => (pcAt bs i).1) = pgRes bs least := by rw [Hgood.out, List.take_of_length_le (by rw [Hml.out]; exact Nat.le_refl _)]
          rw [hfin] at hrows
          clear hfin
          go_wp2
          go_ret
          exact ⟨D, k, d, hs, rfl, hG, hrows⟩
end Go.Proofs.Ytifmljckmjnpfaa
