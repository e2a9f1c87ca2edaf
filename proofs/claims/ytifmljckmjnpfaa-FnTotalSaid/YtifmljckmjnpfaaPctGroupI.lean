/-
  PrecinctsGroup of the program.
-/
import Derived.Test.YtifmljckmjnpfaaPctGroups
import Derived.Test.YtifmljckmjnpfaaIntRows
namespace Go.Proofs.Ytifmljckmjnpfaa
open Go.RowKit
set_option linter.unusedVariables false

/-- The numbers of the precincts of each group. -/
def pgRes (bs : List Pc) (least : Int) : List Row := (pGroups bs least).map (List.map (·.1))
/-- A fresh table. -/
def TableRes (yss : List Row) (w : World) (e : Ending) (w' : World) : Prop :=
  ∃ B m c hs, e = .returned (.slice B m c) ∧ w.grownBy w' none ∧ OwnRows 3 32 w' w.heap.size w'.heap.size B m c yss hs
theorem intsInfo : (Try.prog.info? 32).map (fun i => (i.zero, i.size, i.bytes)) = some (some (.slice none 0 0), 1, 24) := by kernel_rfl
theorem intsE : Elem Try.prog 29 32 1 24 (.slice none 0 0) := ⟨Try.underlying29, info_parts intsInfo, rfl, by omega⟩
theorem intI : (Try.prog.info? 3).map (fun i => (i.zero, i.size, i.bytes)) = some (some (.int .i64 0), 1, 8) := by kernel_rfl
theorem intE1 : Elem Try.prog 32 3 1 8 (.int .i64 0) := ⟨Try.underlying32, info_parts intI, rfl, by omega⟩
theorem pGroups_len {bs : List Pc} {least : Int} (h : bs.length ≤ 2000000) : (pGroups bs least).length ≤ 2000000 ∧ ∀ g ∈ pGroups bs least, g.length ≤ 2000000 := by
  unfold pGroups
  split
  · have hf := congrArg List.length (groups_flat pcWt least bs)
    have hne := groups_ne pcWt least bs
    have key : ∀ gs : List (List Pc), (∀ g ∈ gs, g ≠ []) → gs.length ≤ gs.flatten.length ∧ ∀ g ∈ gs, g.length ≤ gs.flatten.length := by
      intro gs
      induction gs with
      | nil => intro _; exact ⟨Nat.le_refl _, fun g h => by cases h⟩
      | cons x gs ih =>
        intro h
        obtain ⟨i1, i2⟩ := ih (fun g hg => h g (List.mem_cons_of_mem _ hg))
        have hx := List.length_pos_iff.2 (h x (by simp))
        rw [List.flatten_cons, List.length_append, List.length_cons]
        refine ⟨by omega, fun g hg => ?_⟩
        rcases List.mem_cons.1 hg with rfl | hg
        · omega
        · have := i2 g hg; omega
    obtain ⟨k1, k2⟩ := key _ hne
    rw [hf] at k1 k2
    exact ⟨by omega, fun g hg => by have := k2 g hg; omega⟩
  · exact ⟨by simp, fun g h => by cases h⟩

set_option maxHeartbeats 2000000 in
theorem c_impl_PrecinctsGroup (lo : Nat) (A : Option Addr) (n cap : Nat) (bs : List Pc) (least : Int) (w : World) (h : Pcts w lo A n cap bs) (hn : n ≤ 2000000) (hs : ∀ b ∈ bs, ∀ p ∈ b.2, p.1.size ≤ 2000000) :
    Calls Try.prog 18 #[.slice A n cap, .int .i64 least] w (TableRes (pgRes bs least) w) := by
  have hc := Lib.hid (c_precinctGroups lo A n cap bs least w h hn hs)
  have hgl := pGroups_len (bs := bs) (least := least) (by rw [h.len]; exact hn)
  obtain ⟨gs, hgs⟩ : ∃ gs, pGroups bs least = gs := ⟨_, rfl⟩
  have Hgs := Lib.hid hgs
  rw [hgs] at hc hgl
  have Hgl := Lib.hid hgl
  clear hgs hs h hgl
  go_enter Try.func18, Try.ntmps18
  go_wp2_with fail
  refine hc.out.mono ?_
  rintro e w1 ⟨B, m, c, vs, rfl, hg1, hownv, hvs⟩
  have Hvs := Lib.hid hvs
  have hml : m ≤ 2000000 := by have h1 := hownv.1; have h2 := hvs.1; have := Hgl.out.1; omega
  have Hml : Hid (gs.length = m) := Lib.hid (by have h1 := hownv.1; have h2 := hvs.1; omega)
  have hlc := (Sl.own hownv).le
  have hcm := (Sl.own hownv).max
  clear hc hvs
  go_wp2
  go_loopw [5, 15] (fun v5 i wr => ∃ (k : Nat) (D : Option Addr) (d : Nat) (hs : List Hd), k ≤ m ∧ i = .int .i64 k ∧ v5 = .slice D k d ∧ w1.grownBy wr none ∧ OwnRows 3 32 wr w1.heap.size wr.heap.size D k d ((gs.take k).map (List.map (·.1))) hs) (fun _ i _ => m - (intOf i).toNat)
  case atStart => exact ⟨0, _, _, [], Nat.zero_le _, rfl, rfl, gb_refl _ _, OwnRows.nil _ _ _ _ _⟩
  case round =>
    obtain ⟨k, D, d, hs, hk, rfl, rfl, hG, hrows⟩ := hrel
    rename World => wr
    by_cases hlt : k < m
    · have hk' : (k : Int) < (m : Int) := by omega
      have hk0 : (0 : Int) ≤ (k : Int) := by omega
      obtain ⟨gB, rfl, hgB0, hgB1⟩ := own_addr2 hownv (by omega)
      have hg : gs[k]? = some (gs[k]'(by rw [Hml.out]; exact hlt)) := List.getElem?_eq_getElem _
      obtain ⟨g, hgk⟩ : ∃ g, gs[k]? = some g := ⟨_, hg⟩
      have hvl : vs.length = m := by have h1 := hownv.1; omega
      obtain ⟨A2, n2, c2, hv2, hP2⟩ := Hvs.out.2 k _ g (List.getElem?_eq_getElem (by omega)) hgk
      have hownr := own_below hownv hG
      have hcell : wr.cell? ⟨gB, k, none⟩ = some (.slice A2 n2 c2) := by
        rw [hownr.cellAt k (by omega), ← hv2]
        exact List.getElem?_eq_getElem (by omega)
      have Hgk := Lib.hid hgk
      have hn2 : n2 ≤ 2000000 := by have h1 := Hgl.out.2 g (List.mem_of_getElem? hgk); have := hP2.len; omega
      have Hn2 := Lib.hid hP2.len
      have hPr := Recs.keep0 hP2 (gb_trans hg1 hG)
      have hlc2 := hPr.le
      have hcm2 := hPr.max
      clear hg hgk hv2 hP2 hownr hvl
      go_wp2
      go_loopw [8, 21] (fun v8 i x => ∃ (j : Nat) (E : Option Addr) (e : Nat), j ≤ n2 ∧ i = .int .i64 j ∧ v8 = .slice E j e ∧ wr.grownBy x none ∧ x.ownsRow wr.heap.size 3 1 (.slice E j e) j (((g.map (·.1)).take j).map (Value.int .i64))) (fun _ i _ => n2 - (intOf i).toNat)
      case atStart => exact ⟨0, _, _, Nat.zero_le _, rfl, rfl, gb_refl _ _, own_nil _ _ _ _⟩
      case round =>
        obtain ⟨j, E, e, hj, rfl, rfl, hGx, hown⟩ := hrel
        rename World => x
        by_cases hjn : j < n2
        · obtain ⟨b, off, id, ps, A', c', rfl, hp, hps, m0, m1⟩ := Pcts.at_ (Recs.keep0 hPr hGx) hjn
          have hj' : (j : Int) < (n2 : Int) := by omega
          have hj0 : (0 : Int) ≤ (j : Int) := by omega
          obtain ⟨N, hN⟩ : ∃ N, ps.length = N := ⟨_, rfl⟩
          rw [hN] at m1
          clear hN hps
          have hid : Hid ((g.map (·.1))[j]? = some id) := Lib.hid (by rw [List.getElem?_map, hp.out]; rfl)
          have hGa := gb_alloc (gb_alloc (gb_refl x none) (.cells #[.int .i64 id, .slice A' N c'] 35)) (.cells #[.int .i64 id] 3)
          have hown1 := own_below hown hGa
          have hz3 := Nat.le_trans hGx.size hGa.size
          have hBn := Blk.new (x.alloc (.cells #[.int .i64 id, .slice A' N c'] 35)) 3 #[.int .i64 id]
          rw [show (x.alloc (.cells #[.int .i64 id, .slice A' N c'] 35)).heap.size = x.heap.size + 1 from by simp] at hBn
          go_wp2_with (at_builtin; refine wpList_appB intE1 rfl _ _ rfl wr.heap.size j _ _ rfl hown1 (x.heap.size + 1) [_] rfl hBn rfl (by simp [Value.oneCell']) (by omega) (by omega) hz3 ?_; intro D' d' w3 hown3 hb3 hg3 hat3)
          go_roundw
          case rel => exact ⟨j + 1, D', d', by omega, by go_num, rfl, gb_of_below ((gb_below (gb_trans hGx hGa)).trans hb3) none, by rw [take_succ_of hid.out, List.map_append]; exact hown3⟩
          case measure => simp [intOf]; omega
        · obtain rfl : j = n2 := by omega
          have hml : (g.map (·.1)).length = j := by rw [List.length_map, Hn2.out]
          have hown0 : x.ownsRow wr.heap.size 3 1 (.slice E (g.map (·.1)).length e) (g.map (·.1)).length ((g.map (·.1)).map (Value.int .i64)) := by
            rw [List.take_of_length_le (by omega)] at hown
            rw [hml]
            exact hown
          have hrx := hrows.keep hGx
          have Ho := Lib.hid hown0
          have hz3 : w1.heap.size ≤ x.heap.size := Nat.le_trans hG.size hGx.size
          have Hmm := Lib.hid hml
          have Hz := Lib.hid hG.size
          have Hzx := Lib.hid hGx.size
          clear hown hown0 hml
          go_wp2_with (at_builtin; refine wpList_app intsE rfl _ _ rfl w1.heap.size k _ _ rfl hrx.row [_] rfl rfl (by simp [Value.oneCell']) (by omega) (by omega) hz3 ?_; intro D' d' w3 hown3 hb3 hg3 hat3)
          have hpush := hrx.push (ys := g.map (·.1)) (d := (E, e)) Ho.out Hz.out (by rw [Hmm.out]; exact hown3) hg3 hat3 Hzx.out
          go_roundw
          case rel => exact ⟨k + 1, D', d', _, by omega, by go_num, rfl, gb_of_below ((gb_below (gb_trans hG hGx)).trans hb3) none, by rw [take_succ_of Hgk.out, List.map_append]; exact hpush⟩
          case measure => simp [intOf]; omega
    · obtain rfl : k = m := by omega
      have hfin : (gs.take k).map (List.map (·.1)) = pgRes bs least := by rw [pgRes, Hgs.out, List.take_of_length_le (by rw [Hml.out]; exact Nat.le_refl _)]
      rw [hfin] at hrows
      clear hfin
      go_wp2
      go_ret
      exact ⟨D, k, d, hs, rfl, gb_trans hg1 hG, hrows.wide hg1.size (Nat.le_refl _)⟩
end Go.Proofs.Ytifmljckmjnpfaa
