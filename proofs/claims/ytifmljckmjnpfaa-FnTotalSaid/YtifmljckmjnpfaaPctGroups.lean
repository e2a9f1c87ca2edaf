/-
  precinctGroups of the program: the groups in which precincts are published.
-/
import Derived.Test.YtifmljckmjnpfaaGroups
import Derived.Test.YtifmljckmjnpfaaPctTotal
import Derived.Test.YtifmljckmjnpfaaPilesTotal
namespace Go.Proofs.Ytifmljckmjnpfaa
open Go.RowKit
set_option linter.unusedVariables false

def pcWt (b : Pc) : Int := sumPl b.2
def groupOK (bs : List Pc) (least : Int) : Bool := pctsOK bs && inB least 1 99
def pGroups (bs : List Pc) (least : Int) : List (List Pc) := if groupOK bs least then groups pcWt least bs else []
/-- Rows that each read as precincts. -/
def GrpsAt (w : World) (lo : Nat) (vs : List Value) (gs : List (List Pc)) : Prop :=
  vs.length = gs.length ∧ ∀ (k : Nat) (v : Value) (g : List Pc), vs[k]? = some v → gs[k]? = some g → ∃ A n c, v = .slice A n c ∧ Pcts w lo A n c g
section
variable {w : World} {lo : Nat} {vs : List Value} {gs : List (List Pc)} {v : Value} {g : List Pc}
theorem GrpsAt.nil (w : World) (lo : Nat) : GrpsAt w lo [] [] := ⟨rfl, fun k v g h => by simp at h⟩
theorem GrpsAt.push (h : GrpsAt w lo vs gs) {A : Option Addr} {n c : Nat} (hg : Pcts w lo A n c g) : GrpsAt w lo (vs ++ [.slice A n c]) (gs ++ [g]) := by
  refine ⟨by simp [h.1], fun k u x h1 h2 => ?_⟩
  rcases snoc_at h1 with ⟨a1, a2⟩ | ⟨a1, a2⟩
  · rcases snoc_at h2 with ⟨b1, b2⟩ | ⟨b1, b2⟩
    · exact h.2 k u x a2 b2
    · have := h.1; omega
  · rcases snoc_at h2 with ⟨b1, b2⟩ | ⟨b1, b2⟩
    · have := h.1; omega
    · subst a2 b2
      exact ⟨A, n, c, rfl, hg⟩
theorem GrpsAt.swap (h : GrpsAt w lo vs gs) {k : Nat} {A : Option Addr} {n c : Nat} (hg : Pcts w lo A n c g) : GrpsAt w lo (vs.set k (.slice A n c)) (gs.set k g) := by
  refine ⟨by simp [h.1], fun j u x h1 h2 => ?_⟩
  by_cases hj : j = k
  · subst hj
    have hl := (List.getElem?_eq_some_iff.1 h1).1
    rw [List.length_set] at hl
    rw [List.getElem?_set_self hl] at h1
    rw [List.getElem?_set_self (by rw [← h.1]; exact hl)] at h2
    injection h1 with h1
    injection h2 with h2
    subst h1 h2
    exact ⟨A, n, c, rfl, hg⟩
  · rw [List.getElem?_set_ne (fun e => hj e.symm)] at h1 h2
    exact h.2 j u x h1 h2
end
theorem Recs.part {α : Type} {R : Rec α} {w : World} {lo n cap i k : Nat} {A : Option Addr} {xs : List α} (h : Recs R w lo A n cap xs) (hi : i ≤ k) (hk : k ≤ n) :
    Recs R w lo (if cap = i then A else A.map (·.add (i * (R.own + 1)))) (k - i) (cap - i) ((xs.drop i).take (k - i)) := (h.drop (Nat.le_trans hi hk)).take (by omega)
theorem pcWt_bound {b : Pc} (h : pilesOK b.2 = true) : 0 ≤ pcWt b ∧ pcWt b ≤ 1188 := by
  have h1 := (pilesOK_iff _).1 h
  have h2 := sumPl_bound h1.1
  unfold pcWt
  omega
theorem rowsInfo : (Try.prog.info? 23).map (fun i => (i.zero, i.size, i.bytes)) = some (some (.slice none 0 0), 1, 24) := by kernel_rfl
theorem rowsE : Elem Try.prog 63 23 1 24 (.slice none 0 0) := ⟨Try.underlying63, info_parts rowsInfo, rfl, by omega⟩
theorem take_flat {α : Type} {xs : List α} {o : List (List α)} {g : List α} {k : Nat} (h : o.flatten ++ g = xs.take k) (hk : k ≤ xs.length) : g = (xs.drop o.flatten.length).take (k - o.flatten.length) ∧ o.flatten.length + g.length = k := by
  have hl : o.flatten.length + g.length = k := by
    have := congrArg List.length h
    rw [List.length_append, List.length_take] at this
    omega
  refine ⟨?_, hl⟩
  have h1 : (xs.take k).drop o.flatten.length = g := by rw [← h, List.drop_left]
  rw [← h1, List.drop_take]

set_option maxHeartbeats 2000000 in
theorem c_precinctGroups (lo : Nat) (A : Option Addr) (n cap : Nat) (bs : List Pc) (least : Int) (w : World) (h : Pcts w lo A n cap bs) (hn : n ≤ 2000000) (hs : ∀ b ∈ bs, ∀ p ∈ b.2, p.1.size ≤ 2000000) :
    Calls Try.prog 50 #[.slice A n cap, .int .i64 least] w fun e w' => ∃ B m c vs, e = .returned (.slice B m c) ∧ w.grownBy w' none ∧ w'.ownsRow w.heap.size 23 1 (.slice B m c) m vs ∧ GrpsAt w lo vs (pGroups bs least) := by
  have hlc := h.le
  have hcm := h.max
  have hxl := Lib.hid h.len
  have Hs := Lib.hid hs
  clear hs
  obtain ⟨V, hV⟩ : ∃ V, pctsOK bs = V := ⟨_, rfl⟩
  have HV := Lib.hid hV
  clear hV
  have hvp := fun (x : World) (hx : w.grownBy x none) => c_impl_PrecinctsValid lo A n cap bs x (Recs.keep0 h hx) Hs.out
  rw [HV.out] at hvp
  have Hvp := Lib.hid hvp
  clear hvp
  cases V with
  | false =>
    have hbad : pGroups bs least = [] := by rw [pGroups, groupOK, HV.out]; rfl
    have Hbad := Lib.hid hbad
    clear hbad
    go_enter Try.func50, Try.ntmps50
    go_wp2_with fail
    refine (Hvp.out _ (gb_refl _ _)).mono ?_
    rintro e w1 ⟨rfl, hg1⟩
    go_wp2
    go_ret
    exact ⟨none, 0, 0, [], rfl, hg1, own_nil _ _ _ _, by rw [Hbad.out]; exact GrpsAt.nil _ _⟩
  | true =>
    by_cases hL1 : least < 1
    · have hbad : pGroups bs least = [] := by rw [pGroups, groupOK, HV.out, if_neg]; simp [inB]; omega
      have Hbad := Lib.hid hbad
      clear hbad
      go_enter Try.func50, Try.ntmps50
      go_wp2_with fail
      refine (Hvp.out _ (gb_refl _ _)).mono ?_
      rintro e w1 ⟨rfl, hg1⟩
      go_wp2
      go_ret
      exact ⟨none, 0, 0, [], rfl, hg1, own_nil _ _ _ _, by rw [Hbad.out]; exact GrpsAt.nil _ _⟩
    have hL1' : 1 ≤ least := by omega
    by_cases hL2 : 99 < least
    · have hbad : pGroups bs least = [] := by rw [pGroups, groupOK, HV.out, if_neg]; simp [inB]; omega
      have Hbad := Lib.hid hbad
      clear hbad
      go_enter Try.func50, Try.ntmps50
      go_wp2_with fail
      refine (Hvp.out _ (gb_refl _ _)).mono ?_
      rintro e w1 ⟨rfl, hg1⟩
      go_wp2
      go_ret
      exact ⟨none, 0, 0, [], rfl, hg1, own_nil _ _ _ _, by rw [Hbad.out]; exact GrpsAt.nil _ _⟩
    have hL2' : least ≤ 99 := by omega
    have hgood : pGroups bs least = gJoin (gRun pcWt least bs).1 (gRun pcWt least bs).2.1 := by rw [pGroups, groupOK, HV.out, if_pos]; rfl; simp [inB]; omega
    have Hgood := Lib.hid hgood
    have hpo := Lib.hid (pctsOK_piles HV.out)
    have hn6 : n ≤ 6 := by have := pctsOK_len HV.out; have := hxl.out; omega
    have Hh := Lib.hid h
    clear hgood
    go_enter Try.func50, Try.ntmps50
    go_wp2_with fail
    refine (Hvp.out _ (gb_refl _ _)).mono ?_
    rintro e w1 ⟨rfl, hg1⟩
    clear Hvp
    go_wp2
    go_loopw [5, 6, 7, 24] (fun v5 v6 v7 i wr => ∃ (k j F : Nat) (D : Option Addr) (d : Nat) (vs : List Value) (o : List (List Pc)) (g : List Pc) (s : Int), k ≤ n ∧ F ≤ k ∧ j ≤ k ∧ i = .int .i64 k ∧ v5 = .slice D j d ∧ v6 = .int .i64 F ∧ v7 = .int .i64 s ∧ 0 ≤ s ∧ s ≤ 1188 * k ∧ w.grownBy wr none ∧ wr.ownsRow w.heap.size 23 1 (.slice D j d) j vs ∧ Hid (GrpsAt w lo vs o) ∧ Hid (gRun pcWt least (bs.take k) = (o, g, s)) ∧ Hid (o.flatten.length = F)) (fun _ _ _ i _ => n - (intOf i).toNat)
    case atStart => exact ⟨0, 0, 0, _, _, [], [], [], 0, Nat.zero_le _, Nat.le_refl _, Nat.le_refl _, rfl, rfl, rfl, rfl, by omega, by omega, hg1, own_nil _ _ _ _, Lib.hid (GrpsAt.nil _ _), Lib.hid rfl, Lib.hid rfl⟩
    case round =>
      obtain ⟨k, j, F, D, d, vs, o, g, s, hk, hFk, hjk, rfl, rfl, rfl, rfl, hs0, hs1, hG, hown, hvs, hrun, hF⟩ := hrel
      rename World => wr
      by_cases hlt : k < n
      · obtain ⟨b, off, id, ps, A', c', rfl, hp, hps, m0, m1⟩ := Pcts.at_ (Recs.keep0 h hG) hlt
        have hk' : (k : Int) < (n : Int) := by omega
        have hk0 : (0 : Int) ≤ (k : Int) := by omega
        have hpsok := hpo.out _ (List.mem_of_getElem? hp.out)
        have hwb := pcWt_bound hpsok
        have hpt : pTotal ps = pcWt (id, ps) := by rw [pTotal, if_pos hpsok]; rfl
        obtain ⟨X, hX⟩ : ∃ X, pcWt (id, ps) = X := ⟨_, rfl⟩
        have HX := Lib.hid hX
        rw [hX] at hpt hwb
        have hX0 : 0 ≤ X := hwb.1
        have hX1 : X ≤ 1188 := hwb.2
        have hstep : gRun pcWt least (bs.take (k + 1)) = gStep pcWt least (o, g, s) (id, ps) := by rw [take_succ_of hp.out, gRun_snoc, hrun.out]
        have Hstep := Lib.hid hstep
        obtain ⟨N, hN⟩ : ∃ N, ps.length = N := ⟨_, rfl⟩
        have hGa := gb_alloc (gb_refl wr none) (.cells #[.int .i64 id, .slice A' N c'] 35)
        have hcall := c_impl_PilesTotal lo A' ps.length c' ps _ (hps.keep0 hGa) (Hs.out _ (List.mem_of_getElem? hp.out))
        rw [hpt, hN] at hcall
        rw [hN] at m1
        have Hc := Lib.hid hcall
        clear hcall hps hpt hpsok hwb hX hN hstep
        go_wp2_with fail
        refine Hc.out.mono ?_
        rintro e w2 ⟨rfl, hg2⟩
        have hG2 := gb_trans hGa hg2
        have hown2 := own_below hown hG2
        have hGw := gb_trans hG hG2
        have hz2 := hGw.size
        clear hGa hg2 hG2 hown Hc
        have hfl : o.flatten ++ g = bs.take k := by
          have h1 := gRun_flat pcWt least (bs.take k)
          rw [hrun.out] at h1
          exact h1
        have hbk : k ≤ bs.length := by rw [hxl.out]; exact hk
        have htf := take_flat (xs := bs) hfl hbk
        rw [hF.out] at htf
        have Htf := Lib.hid htf
        clear hfl htf hbk
        by_cases hge : least ≤ s + X
        · have hst : Hid (gRun pcWt least (bs.take (k + 1)) = (o ++ [g ++ [(id, ps)]], [], 0)) := Lib.hid (by rw [Hstep.out, gStep_yes (by rw [HX.out]; exact hge)])
          have hF0 : (0 : Int) ≤ (F : Int) := by omega
          have hFk1 : (F : Int) ≤ (k : Int) + 1 := by omega
          have hkc : (k : Int) + 1 ≤ (cap : Int) := by omega
          have hFc : ¬ cap = F := by omega
          have t1 : ((k : Int) + 1).toNat = k + 1 := by omega
          have hadd : (⟨b, off, none⟩ : Addr).add (F * 2) = ⟨b, off + F * 2, none⟩ := add_off _ _ _
          have hpart : Hid (Pcts w lo (some ⟨b, off + F * 2, none⟩) (k + 1 - F) (cap - F) (g ++ [(id, ps)])) := Lib.hid (by
            have := Recs.part Hh.out (i := F) (k := k + 1) (by omega) (by omega)
            rw [if_neg hFc, show Option.map (fun x : Addr => x.add (F * (pcRec.own + 1))) (some ⟨b, off, none⟩) = some ⟨b, off + F * 2, none⟩ from congrArg some (add_off b off (F * 2))] at this
            have e2 : (bs.drop F).take (k + 1 - F) = g ++ [(id, ps)] := by
              rw [Htf.out.1, show k + 1 - F = (k - F) + 1 from by omega]
              exact take_succ_of (by rw [List.getElem?_drop, show F + (k - F) = k from by omega]; exact hp.out)
            rw [e2] at this
            exact this)
          go_wp2_with (at_builtin; refine wpList_app rowsE rfl _ _ rfl w.heap.size j _ _ rfl hown2 [_] rfl rfl (by simp [Value.oneCell']) (by omega) (by omega) hz2 ?_; intro D' d' w3 hown3 hb3 hg3 hat3)
          go_roundw
          case rel => exact ⟨k + 1, j + 1, k + 1, D', d', _, _, _, _, by omega, Nat.le_refl _, by omega, by go_num, rfl, by go_num, rfl, by omega, by omega, gb_of_below ((gb_below hGw).trans hb3) none, hown3, Lib.hid (hvs.out.push hpart.out), hst, Lib.hid (by rw [List.flatten_append, List.length_append, hF.out]; simp; have := Htf.out.2; omega)⟩
          case measure => simp [intOf]; omega
        · have hst : Hid (gRun pcWt least (bs.take (k + 1)) = (o, g ++ [(id, ps)], s + X)) := Lib.hid (by rw [Hstep.out, gStep_no (by rw [HX.out]; omega), HX.out])
          have hlt' : s + X < least := by omega
          go_wp2
          go_roundw
          case rel => exact ⟨k + 1, j, F, D, d, vs, o, _, _, by omega, by omega, by omega, by go_num, rfl, rfl, rfl, by omega, by omega, hGw, hown2, hvs, hst, hF⟩
          case measure => simp [intOf]; omega
      · obtain rfl : k = n := by omega
        have hrun' := hrun.out
        rw [List.take_of_length_le (by rw [hxl.out]; exact Nat.le_refl _)] at hrun'
        have hfl : o.flatten ++ g = bs := by
          have h1 := gRun_flat pcWt least bs
          rw [hrun'] at h1
          exact h1
        have Hfl := Lib.hid hfl
        have htf := take_flat (xs := bs) (k := k) (by rw [List.take_of_length_le (by rw [hxl.out]; exact Nat.le_refl _)]; exact hfl) (by rw [hxl.out]; exact Nat.le_refl _)
        rw [hF.out] at htf
        have Htf := Lib.hid htf
        have hres : Hid (pGroups bs least = gJoin o g) := Lib.hid (by rw [Hgood.out, hrun'])
        have hjl : j = o.length := by rw [← hvs.out.1]; have := hown.1; omega
        have Hjl := Lib.hid hjl
        have hz2 := hG.size
        clear hrun hrun' hfl htf hjl
        by_cases hFn : F = k
        · have hg0 : Hid (g = []) := Lib.hid (List.eq_nil_of_length_eq_zero (by have := Htf.out.2; omega))
          have hFb : ((F : Int) == (k : Int)) = true := by rw [hFn]; simp
          go_wp2
          go_ret
          exact ⟨D, j, d, vs, rfl, hG, hown, by rw [hres.out, hg0.out, gJoin_nil]; exact hvs.out⟩
        · have hgne : Hid (g ≠ []) := Lib.hid (by
            intro e
            have := Htf.out.2
            rw [e] at this
            simp at this
            omega)
          have hFb : ((F : Int) == (k : Int)) = false := by simp; omega
          by_cases hj0 : j = 0
          · subst hj0
            have ho : Hid (o = []) := Lib.hid (List.eq_nil_of_length_eq_zero Hjl.out.symm)
            have hF0 : Hid (F = 0) := Lib.hid (by rw [← hF.out, ho.out]; rfl)
            have hgb : Hid (g = bs) := Lib.hid (by
              have := Htf.out.1
              rw [hF0.out, List.drop_zero, Nat.sub_zero, List.take_of_length_le (by rw [hxl.out]; exact Nat.le_refl _)] at this
              exact this)
            have hv0 : Hid (vs = []) := Lib.hid (List.eq_nil_of_length_eq_zero (by rw [hvs.out.1]; exact Hjl.out.symm))
            go_wp2_with (at_builtin; refine wpList_app rowsE rfl _ _ rfl w.heap.size 0 _ _ rfl hown [_] rfl rfl (by simp [Value.oneCell']) (by omega) (by omega) hz2 ?_; intro D' d' w3 hown3 hb3 hg3 hat3)
            go_ret
            exact ⟨D', _, d', _, rfl, gb_of_below ((gb_below hG).trans hb3) none, hown3, by rw [hres.out, ho.out, gJoin_none hgne.out, hgb.out, hv0.out]; exact (GrpsAt.nil w lo).push Hh.out⟩
          · rcases last_cases o with e | ⟨o', l, e⟩
            · rw [e] at Hjl
              exact absurd Hjl.out hj0
            subst e
            obtain ⟨q, hq⟩ : ∃ q, o'.length = q := ⟨_, rfl⟩
            have hjq : j = q + 1 := by have := Hjl.out; rw [List.length_append, hq] at this; simpa using this
            obtain ⟨gD, rfl, hgD0, hgD1⟩ := own_addr2 hown (by omega)
            have hvl : vs.length = q + 1 := by have := hvs.out.1; rw [List.length_append, hq] at this; simpa using this
            obtain ⟨A2, n2, c2, hv2, hP2⟩ := hvs.out.2 q _ l (List.getElem?_eq_getElem (by omega)) (by rw [← hq]; simp)
            have hcell : wr.cell? ⟨gD, q, none⟩ = some (.slice A2 n2 c2) := by
              rw [hown.cellAt q (by omega), ← hv2]
              exact List.getElem?_eq_getElem (by omega)
            have hn2 : l.length = n2 := hP2.len
            obtain ⟨F0, hF0⟩ : ∃ F0, o'.flatten.length = F0 := ⟨_, rfl⟩
            have hF2 : F = F0 + n2 := by rw [← hF.out]; simp [hn2, hF0]
            have hfro := hown.frozenAt q
            obtain ⟨b, off, _, _, _, _, rfl, _⟩ := Pcts.at_ (k := 0) Hh.out (by omega)
            have hF0c : ¬ cap = F0 := by omega
            have hpart : Hid (Pcts w lo (some ⟨b, off + F0 * 2, none⟩) (k - F0) (cap - F0) (l ++ g)) := Lib.hid (by
              have := Recs.part Hh.out (i := F0) (k := k) (by omega) (by omega)
              rw [if_neg hF0c, show Option.map (fun x : Addr => x.add (F0 * (pcRec.own + 1))) (some ⟨b, off, none⟩) = some ⟨b, off + F0 * 2, none⟩ from congrArg some (add_off b off (F0 * 2))] at this
              have e3 := take_flat (xs := bs) (o := o') (g := l ++ g) (k := k) (by
                rw [List.take_of_length_le (by rw [hxl.out]; exact Nat.le_refl _), ← Hfl.out]
                simp) (by rw [hxl.out]; exact Nat.le_refl _)
              rw [hF0] at e3
              rw [← e3.1] at this
              exact this)
            obtain ⟨hst, hgs⟩ := hown.stored q (.slice (some ⟨b, off + F0 * 2, none⟩) (k - F0) (cap - F0))
            have hfin : Hid (GrpsAt w lo (vs.set q (.slice (some ⟨b, off + F0 * 2, none⟩) (k - F0) (cap - F0))) (pGroups bs least)) := Lib.hid (by
              rw [hres.out, gJoin_snoc _ _ hgne.out]
              have := hvs.out.swap (k := q) hpart.out
              rwa [show (o' ++ [l]).set q (l ++ g) = o' ++ [l ++ g] from by rw [List.set_append_right _ _ (by omega), hq, Nat.sub_self]; rfl] at this)
            have hGs := gb_step hG hgs (fun x e => by injection e with e; right; omega)
            have hsub : IntKind.i64.wrap ((j : Int) - 1) = (q : Int) := by rw [IntWalk.i64_in _ (by omega)]; omega
            have hsubF : IntKind.i64.wrap ((F : Int) - (n2 : Int)) = (F0 : Int) := by rw [IntWalk.i64_in _ (by omega)]; omega
            have hq0 : (0 : Int) ≤ (q : Int) := by omega
            have hqj : (q : Int) < (j : Int) := by omega
            have hF00 : (0 : Int) ≤ (F0 : Int) := by omega
            have hF0k : (F0 : Int) ≤ (k : Int) := by omega
            have hF0k' : F0 ≤ k := by omega
            have hF0c' : (F0 : Int) ≤ (cap : Int) := by omega
            clear hvs hP2 hv2 hown Htf hF hres Hjl hvl hn2 hq hF0 hF2 hjq
            go_wp2
            go_ret
            exact ⟨_, j, d, _, rfl, hGs, hst, hfin.out⟩
end Go.Proofs.Ytifmljckmjnpfaa
