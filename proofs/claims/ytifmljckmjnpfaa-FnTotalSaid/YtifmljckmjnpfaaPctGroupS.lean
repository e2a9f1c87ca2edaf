/-
  PrecinctsGroup of the reference, and its groups of places.
-/
import Derived.Test.YtifmljckmjnpfaaPctGroupI
import Derived.Test.YtifmljckmjnpfaaAppAll
namespace Go.Proofs.Ytifmljckmjnpfaa
open Go.RowKit
set_option linter.unusedVariables false

def pcAt (bs : List Pc) (i : Int) : Pc := bs.getD i.toNat (0, [])
def iWt (bs : List Pc) (i : Int) : Int := pcWt (pcAt bs i)
def upTo (n : Nat) : List Int := (List.range n).map fun (k : Nat) => (k : Int)
theorem upTo_len (n : Nat) : (upTo n).length = n := by simp [upTo]
theorem upTo_at {n k : Nat} (h : k < n) : (upTo n)[k]? = some (k : Int) := by
  unfold upTo
  rw [List.getElem?_map, List.getElem?_range h]
  rfl
theorem pcAt_of {bs : List Pc} {k : Nat} {b : Pc} (h : bs[k]? = some b) : pcAt bs (k : Int) = b := by
  unfold pcAt
  rw [Int.toNat_natCast, List.getD_eq_getElem?_getD, h]
  rfl
theorem upTo_map (bs : List Pc) : (upTo bs.length).map (pcAt bs) = bs := by
  apply List.ext_getElem?
  intro k
  rw [List.getElem?_map]
  by_cases hk : k < bs.length
  · rw [upTo_at hk, List.getElem?_eq_getElem hk]
    show some (pcAt bs (k : Int)) = _
    rw [pcAt_of (List.getElem?_eq_getElem hk)]
  · rw [List.getElem?_eq_none (by rw [upTo_len]; omega), List.getElem?_eq_none (by omega)]
    rfl
/-- The groups, as places. -/
def giRes (bs : List Pc) (least : Int) : List Row := groups (iWt bs) least (upTo bs.length)
theorem giRes_map (bs : List Pc) (least : Int) : groups pcWt least bs = (giRes bs least).map (List.map (pcAt bs)) := by
  have h := groups_map pcWt least (pcAt bs) (upTo bs.length)
  rw [upTo_map] at h
  exact h
theorem giRes_mem {bs : List Pc} {least : Int} {g : Row} {i : Int} (hg : g ∈ giRes bs least) (hi : i ∈ g) : ∃ k : Nat, k < bs.length ∧ i = (k : Int) := by
  have h : i ∈ (giRes bs least).flatten := List.mem_flatten.2 ⟨g, hg, hi⟩
  rw [giRes, groups_flat, upTo] at h
  obtain ⟨k, hk, rfl⟩ := List.mem_map.1 h
  exact ⟨k, List.mem_range.1 hk, rfl⟩
theorem int_one {xs : List Int} : ∀ u ∈ xs.map (Value.int .i64), u.oneCell' = true := by
  intro u hu
  obtain ⟨z, _, rfl⟩ := List.mem_map.1 hu
  rfl
theorem gRun_flen {α : Type} (wt : α → Int) (least : Int) (xs : List α) : (gRun wt least xs).1.length + (gRun wt least xs).2.1.length ≤ xs.length := by
  have hf := congrArg List.length (gRun_flat wt least xs)
  have hne := gRun_ne wt least xs
  have key : ∀ gs : List (List α), (∀ g ∈ gs, g ≠ []) → gs.length ≤ gs.flatten.length := by
    intro gs
    induction gs with
    | nil => intro _; exact Nat.le_refl _
    | cons x gs ih =>
      intro h
      have i1 := ih (fun g hg => h g (List.mem_cons_of_mem _ hg))
      have hx := List.length_pos_iff.2 (h x (by simp))
      rw [List.flatten_cons, List.length_append, List.length_cons]
      omega
  have := key _ hne
  rw [List.length_append] at hf
  omega

set_option maxHeartbeats 400000 in
theorem c_l3Total (lo : Nat) (A : Option Addr) (n cap : Nat) (ps : List Pl) (w : World) (h : Piles w lo A n cap ps) (hb : ∀ p ∈ ps, plOK p = true) (hn : n ≤ 2000000) :
    Calls Try.prog 72 #[.slice A n cap] w fun e w' => e = .returned (.int .i64 (sumPl ps)) ∧ w = w' := by
  have hlc := h.1
  have hcm := Sl.max h
  have hxl := Lib.hid h.len
  have Hb := Lib.hid hb
  clear hb
  go_enter Try.func72, Try.ntmps72
  go_wp2
  go_loop [3, 4] (fun v i => ∃ (k : Nat) (F : Int), k ≤ n ∧ i = .int .i64 k ∧ v = .int .i64 F ∧ 0 ≤ F ∧ F ≤ 99 * k ∧ Hid (F = sumPl (ps.take k))) (fun _ i => n - (intOf i).toNat)
  case atStart => exact ⟨0, 0, Nat.zero_le _, rfl, rfl, by omega, by omega, Lib.hid rfl⟩
  case round =>
    obtain ⟨k, F, hk, rfl, rfl, hF0, hF1, hF⟩ := hrel
    by_cases hlt : k < n
    · obtain ⟨b, off, ⟨s, q⟩, rfl, _, _, hz, p0, p1⟩ := Piles.at_ h hlt
      have hk' : (k : Int) < (n : Int) := by omega
      have hk0 : (0 : Int) ≤ (k : Int) := by omega
      have hq : 1 ≤ q ∧ q ≤ 99 := plOK_many (Hb.out _ (List.mem_of_getElem? hz.out))
      go_wp2
      go_round
      case rel => exact ⟨k + 1, F + q, by omega, by go_num, rfl, by omega, by omega, Lib.hid (by rw [take_succ_of hz.out, sumPl_snoc, hF.out])⟩
      case measure => simp [intOf]; omega
    · obtain rfl : k = n := by omega
      go_wp2
      go_ret
      exact ⟨ret_int (by rw [hF.out, List.take_of_length_le (by rw [hxl.out]; exact Nat.le_refl _)]), rfl⟩

set_option maxHeartbeats 2000000 in
theorem c_l41Groups (lo : Nat) (A : Option Addr) (n cap : Nat) (bs : List Pc) (least : Int) (w : World) (h : Pcts w lo A n cap bs) (hok : pctsOK bs = true) (hl1 : 1 ≤ least) (hl2 : least ≤ 99) :
    Calls Try.prog 51 #[.slice A n cap, .int .i64 least] w (TableRes (giRes bs least) w) := by
  have hlc := h.le
  have hcm := h.max
  have hxl := Lib.hid h.len
  have hpo := Lib.hid (pctsOK_piles hok)
  have hn6 : n ≤ 6 := by have := pctsOK_len hok; have := hxl.out; omega
  clear hok
  go_enter Try.func51, Try.ntmps51
  go_wp2
  obtain ⟨w0, hw0⟩ : ∃ w0, (w.alloc (.cells #[] 32)).alloc (.cells #[] 3) = w0 := ⟨_, rfl⟩
  have hg0 : w.grownBy w0 none := by rw [← hw0]; exact gb_alloc (gb_alloc (gb_refl _ _) _) _
  have hr0 : OwnRows 3 32 w0 w.heap.size (w.heap.size + 1) (some ⟨w.heap.size, 0, none⟩) 0 0 [] [] := by
    rw [← hw0]
    exact (OwnRows.empty _ _ w w.heap.size (Nat.le_refl _)).keep (gb_alloc (gb_refl _ _) _)
  have ho0 : w0.ownsRow (w.heap.size + 1) 3 1 (.slice (some ⟨w.heap.size + 1, 0, none⟩) 0 0) 0 [] := by
    rw [← hw0]
    have := own_empty (w.alloc (.cells #[] 32)) (w.heap.size + 1) 3 1 (by simp)
    rwa [World.size_alloc] at this
  have hz0 : w.heap.size + 1 ≤ w0.heap.size := by rw [← hw0]; simp
  rw [hw0]
  clear hw0
  go_loopw [5, 6, 7, 8] (fun v5 v6 v7 i wr => ∃ (k j q hi : Nat) (D G : Option Addr) (d c : Nat) (o : List Row) (g : Row) (hs : List Hd) (s : Int), k ≤ n ∧ j ≤ k ∧ q ≤ k ∧ i = .int .i64 k ∧ v5 = .slice D j d ∧ v6 = .slice G q c ∧ v7 = .int .i64 s ∧ 0 ≤ s ∧ s ≤ 1188 * k ∧ w.grownBy wr none ∧ w.heap.size ≤ hi ∧ hi ≤ wr.heap.size ∧ OwnRows 3 32 wr w.heap.size hi D j d o hs ∧ wr.ownsRow hi 3 1 (.slice G q c) q (g.map (Value.int .i64)) ∧ Hid (gRun (iWt bs) least ((upTo n).take k) = (o, g, s))) (fun _ _ _ i _ => n - (intOf i).toNat)
  case atStart => exact ⟨0, 0, 0, w.heap.size + 1, _, _, 0, 0, [], [], [], 0, Nat.zero_le _, Nat.le_refl _, Nat.le_refl _, rfl, rfl, rfl, rfl, by omega, by omega, hg0, by omega, hz0, hr0, ho0, Lib.hid rfl⟩
  case round =>
    obtain ⟨k, j, q, hi, D, G, d, c, o, g, hs, s, hk, hjk, hqk, rfl, rfl, rfl, rfl, hs0, hs1, hG, hh1, hh2, hrows, hown, hrun⟩ := hrel
    rename World => wr
    clear hr0 ho0
    by_cases hlt : k < n
    · have hk' : (k : Int) < (n : Int) := by omega
      have hk0 : (0 : Int) ≤ (k : Int) := by omega
      go_wp2_with (at_builtin; refine wpList_app intE1 rfl _ _ rfl hi q _ _ rfl hown [_] rfl rfl (by simp [Value.oneCell']) (by omega) (by omega) hh2 ?_; intro G' c' w3 hown3 hb3 hg3 hat3; obtain ⟨b, off, id, ps, A', cc, rfl, hp, hps, m0, m1⟩ := Pcts.at_ (Recs.keep0 h (gb_of_below ((gb_below hG).trans (hb3.mono hh1)) none)) hlt; obtain ⟨N, hN⟩ : ∃ N, ps.length = N := ⟨_, rfl⟩; rw [hN] at m1)
      have hpsok := hpo.out _ (List.mem_of_getElem? hp.out)
      have hwb := pcWt_bound hpsok
      have hidx := upTo_at hlt
      have hstep : gRun (iWt bs) least ((upTo n).take (k + 1)) = gStep (iWt bs) least (o, g, s) (k : Int) := by rw [take_succ_of hidx, gRun_snoc, hrun.out]
      have Hstep := Lib.hid hstep
      have hX0 : iWt bs (k : Int) = sumPl ps := by rw [iWt, pcAt_of hp.out]; rfl
      obtain ⟨X, hX⟩ : ∃ X, sumPl ps = X := ⟨_, rfl⟩
      have hwb : 0 ≤ sumPl ps ∧ sumPl ps ≤ 1188 := hwb
      have hcall := c_l3Total lo A' ps.length cc ps _ hps ((pilesOK_iff _).1 hpsok).1 (by have h12 : ps.length ≤ 12 := ((pilesOK_iff _).1 hpsok).2.2; omega)
      rw [hX, hN] at hcall
      rw [hX] at hX0 hwb
      have HX := Lib.hid hX0
      have hXa : 0 ≤ X := hwb.1
      have hXb : X ≤ 1188 := hwb.2
      have Hc := Lib.hid hcall
      have hrows3 := hrows.below hb3
      have hz3 := hb3.size
      have hG3 := gb_of_below ((gb_below hG).trans (hb3.mono hh1)) none
      have hzz3 := hG3.size
      clear hcall hpsok hstep hX0 hX hN hps hwb hidx hrows hown hb3 hg3 hat3
      refine Hc.out.mono ?_
      rintro e w4 ⟨rfl, rfl⟩
      clear Hc
      by_cases hge : least ≤ s + X
      · have hst : Hid (gRun (iWt bs) least ((upTo n).take (k + 1)) = (o ++ [g ++ [(k : Int)]], [], 0)) := Lib.hid (by rw [Hstep.out, gStep_yes (by rw [HX.out]; exact hge)])
        have hgl : Hid ((g ++ [(k : Int)]).length = q + 1) := Lib.hid (by have h1 := hown3.1; rw [← List.map_singleton, ← List.map_append, List.length_map] at h1; omega)
        have ho3 : Hid (w3.ownsRow hi 3 1 (.slice G' (g ++ [(k : Int)]).length c') (g ++ [(k : Int)]).length ((g ++ [(k : Int)]).map (Value.int .i64))) := Lib.hid (by
          rw [hgl.out, List.map_append]
          exact hown3)
        clear hown3
        go_wp2_with (at_builtin; refine wpList_app intsE rfl _ _ rfl w.heap.size j _ _ rfl hrows3.row [_] rfl rfl (by simp [Value.oneCell']) (by omega) (by omega) hzz3 ?_; intro D' d' w5 hown5 hb5 hg5 hat5)
        have hpush := hrows3.push (ys := g ++ [(k : Int)]) (d := (G', c')) ho3.out hh1 (by rw [hgl.out]; exact hown5) hg5 hat5 (by omega)
        have hG5 := gb_of_below ((gb_below hG3).trans hb5) none
        go_roundw
        case rel => exact ⟨k + 1, j + 1, 0, w5.heap.size, D', _, d', 0, _, _, _, _, by omega, by omega, by omega, by go_num, rfl, rfl, rfl, by omega, by omega, gb_alloc hG5 _, hG5.size, by simp, hpush.keep (gb_alloc (gb_refl _ _) _), own_empty _ _ _ _ (Nat.le_refl _), hst⟩
        case measure => simp [intOf]; omega
      · have hst : Hid (gRun (iWt bs) least ((upTo n).take (k + 1)) = (o, g ++ [(k : Int)], s + X)) := Lib.hid (by rw [Hstep.out, gStep_no (by rw [HX.out]; omega), HX.out])
        have hlt' : s + X < least := by omega
        go_wp2
        go_roundw
        case rel => exact ⟨k + 1, j, q + 1, hi, D, G', d, c', _, _, _, _, by omega, by omega, by omega, by go_num, rfl, rfl, rfl, by omega, by omega, hG3, hh1, by omega, hrows3, by rw [List.map_append]; exact hown3, hst⟩
        case measure => simp [intOf]; omega
    · obtain rfl : k = n := by omega
      have Hrun := hrun
      have hrun' := hrun.out
      rw [List.take_of_length_le (by rw [upTo_len]; exact Nat.le_refl _)] at hrun'
      have hres : Hid (giRes bs least = gJoin o g) := Lib.hid (by rw [giRes, groups, hxl.out, hrun'])
      have Hj := Lib.hid hrows.xlen
      have hgq : g.length = q := by have := hown.1; simp at this; exact this
      have Hq := Lib.hid hgq
      clear hgq hrun hrun'
      by_cases hq0 : q = 0
      · have hgn : Hid (g = []) := Lib.hid (List.eq_nil_of_length_eq_zero (by rw [Hq.out]; exact hq0))
        subst hq0
        go_wp2
        go_ret
        exact ⟨D, j, d, hs, rfl, hG, by rw [hres.out, hgn.out, gJoin_nil]; exact hrows.wide (Nat.le_refl _) hh2⟩
      · have hgne : Hid (g ≠ []) := Lib.hid (by intro e; have := Hq.out; rw [e] at this; simp at this; omega)
        have hq1 : (0 : Int) < (q : Int) := by omega
        by_cases hj0 : j = 0
        · subst hj0
          have ho : Hid (o = []) := Lib.hid (List.eq_nil_of_length_eq_zero Hj.out)
          have hz := hG.size
          have hown' : wr.ownsRow hi 3 1 (.slice G g.length c) g.length (g.map (Value.int .i64)) := by rw [Hq.out]; exact hown
          have Ho := Lib.hid hown'
          clear hown'
          go_wp2_with (at_builtin; refine wpList_app intsE rfl _ _ rfl w.heap.size 0 _ _ rfl hrows.row [_] rfl rfl (by simp [Value.oneCell']) (by omega) (by omega) hz ?_; intro D' d' w5 hown5 hb5 hg5 hat5)
          have hpush := hrows.push (ys := g) (d := (G, c)) Ho.out hh1 (by rw [Hq.out]; exact hown5) hg5 hat5 hh2
          go_ret
          exact ⟨D', _, d', _, rfl, gb_of_below ((gb_below hG).trans hb5) none, by rw [hres.out, ho.out, gJoin_none hgne.out]; rw [ho.out] at hpush; exact hpush⟩
        · rcases last_cases o with e | ⟨o', l, e⟩
          · rw [e] at Hj
            exact absurd Hj.out.symm hj0
          subst e
          obtain ⟨p, hp⟩ : ∃ p, o'.length = p := ⟨_, rfl⟩
          have hjp : j = p + 1 := by have := Hj.out; rw [List.length_append, hp] at this; simp at this; omega
          obtain ⟨gD, rfl, hgD0, hgD1⟩ := own_addr2 hrows.row (by omega)
          obtain ⟨b, off, l', A2, c2, he, hl', hI2, hcell⟩ := IRows.at_ (k := p) hrows.irows (by omega)
          injection he with he
          injection he with he1 he2
          subst he1 he2
          obtain rfl : l = l' := by
            have := hl'.out
            rw [← hp, List.getElem?_append_right (Nat.le_refl _), Nat.sub_self] at this
            injection this with this
          rw [Nat.zero_add] at hcell
          have hG2 : Ints wr hi G q c g := Sl.own hown
          obtain ⟨m, hm⟩ : ∃ m, l.length = m := ⟨_, rfl⟩
          have Hm := Lib.hid hm
          have hm6 : m ≤ 6 := by
            have h1 := gRun_flat (iWt bs) least ((upTo k).take k)
            rw [Hrun.out] at h1
            have h2 := congrArg List.length h1
            rw [List.length_append, List.length_take, upTo_len] at h2
            simp only [List.flatten_append, List.length_append, List.flatten_cons, List.flatten_nil, List.append_nil] at h2
            omega
          rw [hm] at hI2 hcell
          have hGa := gb_alloc (gb_refl wr none) (.cells #[] 3)
          have hza := hGa.size
          have hcella := gb_cell hGa hcell (by simp)
          have hIa : Ints _ _ A2 m c2 l := Sl.keep0 hI2 hGa
          have howna := own_empty wr wr.heap.size 3 1 (Nat.le_refl _)
          have hBa := gb_below hGa
          have hsub : IntKind.i64.wrap ((j : Int) - 1) = (p : Int) := by rw [IntWalk.i64_in _ (by omega)]; omega
          have hp0 : (0 : Int) ≤ (p : Int) := by omega
          have hpj : (p : Int) < (j : Int) := by omega
          have hj1 : (0 : Int) < (j : Int) := by omega
          have hlg : (l ++ g).length = m + q := by rw [List.length_append, hm, Hq.out]
          have hset : (o' ++ [l]).set p (l ++ g) = o' ++ [l ++ g] := by rw [List.set_append_right _ _ (by omega), hp, Nat.sub_self]; rfl
          have Hlg := Lib.hid hlg
          have Hset := Lib.hid hset
          have hpj' : p < j := by omega
          have HR := Lib.hid hrows
          have hfin := Lib.hid (show giRes bs least = o' ++ [l ++ g] from by rw [hres.out, gJoin_snoc _ _ hgne.out])
          clear hm hp hjp hI2 hown hrows hlg hset hGa
          go_wp2_with (first
            | (at_builtin; refine wpList_appAll intE1 rfl _ _ rfl wr.heap.size w.heap.size 0 m c2 _ [] _ A2 rfl howna rfl hIa int_one (by omega) (by omega) hza ?_; intro B5 c5 w5 hown5 hb5 hg5 hat5; rw [Nat.zero_add] at hown5 hat5 ⊢; have hB5 := hBa.trans hb5; have hGg5 := sl_below hG2 hB5 (Nat.le_refl _); have hz5 := hB5.size)
            | (at_builtin; refine wpList_appAll intE1 rfl _ _ rfl wr.heap.size hi m q c _ _ _ G rfl hown5 rfl hGg5 int_one (by omega) (by omega) hz5 ?_; intro B6 c6 w6 hown6 hb6 hg6 hat6; have hB6 := hB5.trans hb6; have hrows6 := HR.out.below (hB6.mono hh2); have hfro6 := hrows6.row.frozenAt p; have hcell6 := (hB6.cell (p := ⟨gD, p, none⟩) hgD1).trans hcell;
               have hsw := hrows6.swap (g := gD) rfl (k := p) (ys := l ++ g) (d := (B6, c6)) hpj' (by rw [Hlg.out, List.map_append]; exact own_lo hown6 hh2) hh1 (Nat.le_trans hh2 hB6.size); rw [Hlg.out, Hset.out] at hsw; obtain ⟨hsw1, hsw2⟩ := hsw))
          go_ret
          exact ⟨_, j, d, _, rfl, gb_step (gb_of_below ((gb_below hG).trans (hB6.mono hG.size)) none) hsw2 (fun x e => by injection e with e; right; omega), by rw [hfin.out]; exact hsw1.wide (Nat.le_refl _) (by simp [World.setCell])⟩
end Go.Proofs.Ytifmljckmjnpfaa
