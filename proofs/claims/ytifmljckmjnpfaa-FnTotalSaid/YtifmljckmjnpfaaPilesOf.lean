/-
  pilesOf of the program: lists of piles together, by a map.
-/
import Derived.Test.YtifmljckmjnpfaaMapLaw
import Derived.Test.YtifmljckmjnpfaaKeys
import Derived.Test.YtifmljckmjnpfaaPut
import Derived.Test.YtifmljckmjnpfaaPilesAdd
import Derived.Test.YtifmljckmjnpfaaPiles
import Derived.Maps.OwnSet
namespace Go.Proofs.Ytifmljckmjnpfaa
open Go.RowKit Go.Maps Go.WideMaps
set_option linter.unusedVariables false

/-- Lists of piles. -/
def plsRec : Rec (List Pl) := ⟨0, fun _ => [], fun x => x, fun _ => rfl⟩
abbrev Plss (w : World) (lo : Nat) (A : Option Addr) (n cap : Nat) (pss : List (List Pl)) : Prop := Recs plsRec w lo A n cap pss
theorem Plss.at_ {w : World} {lo n cap k : Nat} {A : Option Addr} {pss : List (List Pl)} (h : Plss w lo A n cap pss) (hk : k < n) : ∃ b off ps A' c', A = some ⟨b, off, none⟩ ∧ Hid (pss[k]? = some ps) ∧ Piles w lo A' ps.length c' ps ∧ w.cell? ⟨b, off + k, none⟩ = some (.slice A' ps.length c') := by
  obtain ⟨b, off, ps, A', c', e, hx, hp, _, hs⟩ := Recs.at_ h hk
  have hs : w.cell? ⟨b, off + k * 1 + 0, none⟩ = some (.slice A' ps.length c') := hs
  rw [Nat.mul_one, Nat.add_zero] at hs
  exact ⟨b, off, ps, A', c', e, hx, hp, hs⟩

theorem om_keep {P : Program} {k : TypeId} {R : Value → Option (DataW Unit × List MemPlace)} {w w' : World} {b n : Nat} {D : DataW Unit} {row : Option Nat} (h : w.ownsMap P k R b n D) (hg : w.grownBy w' row) (hr : some b ≠ row) : w'.ownsMap P k R b n D := by
  have hlt := h.lt
  obtain ⟨es, clock, hb, F, hs, hD⟩ := h
  exact ⟨es, clock, (hg.block b hlt hr).trans hb, F, hs, hD⟩

theorem keysLaw : Keyed Try.prog 9 := string_keyed Try.underlying9
theorem zeroInt (w : World) : (zeroValue 3).run Try.prog w = .ok (.int .i64 0) w := by kernel_rfl
abbrev MapIn (w : World) (b n : Nat) (D : DataW Unit) : Prop := w.ownsMap Try.prog 9 (plainElem Try.prog 3) b n D

def sumOK (es : List Pl) : Bool := pilesOK (canon es)
def sumRes (es : List Pl) : List Pl := if sumOK es then canon es else []

theorem small_sub {es fs : List Pl} (h : Small es) (hs : ∀ e ∈ fs, e ∈ es) (hl : fs.length ≤ es.length) : Small fs := ⟨fun e he => h.1 e (hs e he), Nat.le_trans hl h.2⟩
theorem tot_bound {es : List Pl} (h : Small es) (t : ByteArray) : 0 ≤ tot es t ∧ tot es t ≤ 99 * es.length := by
  have h1 := h.1
  clear h
  induction es with
  | nil => rw [tot_nil]; simp
  | cons e es ih =>
    have := ih (fun x hx => h1 x (List.mem_cons_of_mem _ hx))
    have h2 := h1 e (by simp)
    rw [tot_cons, List.length_cons]
    split <;> omega
theorem tot_snoc (es : List Pl) (p : Pl) (t : ByteArray) : tot (es ++ [p]) t = if t = p.1 then tot es p.1 + p.2 else tot es t := by
  rw [tot_append, tot_cons, tot_nil]
  by_cases h : t = p.1
  · subst h; simp
  · rw [if_neg (fun e => h e.symm), if_neg h]; omega
theorem canon_sizes {es : List Pl} {M : Nat} (h : ∀ p ∈ es, p.1.size ≤ M) : ∀ p ∈ canon es, p.1.size ≤ M := by
  intro p hp
  have : p.1 ∈ (canon es).map (·.1) := List.mem_map.2 ⟨p, hp, rfl⟩
  rw [canon_texts] at this
  obtain ⟨q, hq, e⟩ := List.mem_map.1 this
  rw [← e]
  exact h q hq

theorem below_grow {a w w' : World} {lo M : Nat} (h : Below lo a w) (hg : w.grownBy w' (some M)) (hM : lo ≤ M) (hlo : lo ≤ w.heap.size) : Below lo a w' :=
  ⟨hg.os.trans h.os, hg.tape.trans h.tape, hg.output.trans h.output, Nat.le_trans h.size hg.size, fun i hi => (hg.block i (by omega) (by simp; omega)).trans (h.block i hi)⟩
theorem texts_snoc (es : List Pl) (p : Pl) (t : ByteArray) : t ∈ (es ++ [p]).map (·.1) ↔ t = p.1 ∨ t ∈ es.map (·.1) := by
  rw [List.map_append, List.mem_append, or_comm]
  simp
theorem canon_len (es : List Pl) : (canon es).length ≤ es.length := by
  have : ∀ ps, (canonFrom ps es).length ≤ ps.length + es.length := by
    induction es with
    | nil => intro ps; simp [canonFrom_nil]
    | cons e es ih => intro ps; rw [canonFrom_cons]; have h1 := ih (put ps e.1 e.2); have h2 := put_length ps e.1 e.2; rw [List.length_cons]; omega
  have := this []
  simpa [canon] using this

set_option maxRecDepth 100000 in
set_option maxHeartbeats 4000000 in
theorem c_pilesOf (lo : Nat) (A : Option Addr) (n cap : Nat) (pss : List (List Pl)) (w : World) (h : Plss w lo A n cap pss) (hsm : Small pss.flatten) (hlen : pss.flatten.length ≤ 2000000) (hs : ∀ p ∈ pss.flatten, p.1.size ≤ 2000000) :
    Calls Try.prog 60 #[.slice A n cap] w (PilesOkRes (sumRes pss.flatten) (sumOK pss.flatten) w) := by
  have hlc := h.le
  have hcm := h.max
  have hxl := Lib.hid h.len
  have Hsm := Lib.hid hsm
  have Hs := Lib.hid hs
  have Hlen := Lib.hid hlen
  have hmm := @run_makeMap Try.prog
  clear hsm hs hlen
  go_enter Try.func60, Try.ntmps60
  go_wp2
  clear hmm
  go_loopw [15] (fun i wr => ∃ (k : Nat) (D : DataW Unit), k ≤ n ∧ i = .int .i64 k ∧ MapIn wr w.heap.size (pss.take k).flatten.length D ∧ Hid (MapOf D (fun t => t ∈ (pss.take k).flatten.map (·.1)) (tot (pss.take k).flatten)) ∧ Below w.heap.size w wr) (fun i _ => n - (intOf i).toNat)
  case atStart => exact ⟨0, _, Nat.zero_le _, rfl, World.ownsMap_made _ _ _ _, Lib.hid (MapOf.start.congr (fun t => by simp) (fun t => rfl)), (Below.refl _ _).alloc (Nat.le_refl _) _⟩
  case round =>
    obtain ⟨k, D, hk, rfl, hown, hD, hb⟩ := hrel
    rename World => wr
    by_cases hlt : k < n
    · obtain ⟨b, off, ps, A', c', rfl, hp, hps, m00⟩ := Plss.at_ h hlt
      have m0 := gb_cell (gb_of_below hb none) m00 (by simp)
      clear m00
      have hk' : (k : Int) < (n : Int) := by omega
      have hk0 : (0 : Int) ≤ (k : Int) := by omega
      have hsplit : (pss.take (k + 1)).flatten = (pss.take k).flatten ++ ps := by rw [take_succ_of hp.out, List.flatten_append]; simp
      have hpre : pss.flatten = (pss.take k).flatten ++ ps ++ (pss.drop (k + 1)).flatten := by rw [← hsplit, ← List.flatten_append, List.take_append_drop]
      have Hsplit := Lib.hid hsplit
      have Hpre := Lib.hid hpre
      have hpl := Lib.hid hps.len
      obtain ⟨N, hN⟩ : ∃ N, ps.length = N := ⟨_, rfl⟩
      have HN := Lib.hid hN
      have hNl : N ≤ 2000000 := by
        have h1 := Hlen.out
        rw [hpre] at h1
        simp only [List.length_append] at h1
        omega
      rw [hN] at hps m0
      obtain ⟨es, hes⟩ : ∃ es, (pss.take k).flatten = es := ⟨_, rfl⟩
      have Hes := Lib.hid hes
      rw [hes] at hown hD
      have hlc' := hps.1
      have hcm' := Sl.max hps
      clear hN hsplit hpre hes
      go_wp2
      go_loopw [21] (fun i x => ∃ (j : Nat) (D : DataW Unit), j ≤ N ∧ i = .int .i64 j ∧ MapIn x w.heap.size (es.length + j) D ∧ Hid (MapOf D (fun t => t ∈ (es ++ ps.take j).map (·.1)) (tot (es ++ ps.take j))) ∧ Below w.heap.size w x ∧ wr.grownBy x (some w.heap.size)) (fun i _ => N - (intOf i).toNat)
      case atStart => exact ⟨0, D, Nat.zero_le _, rfl, hown, Lib.hid (by simpa using hD.out), hb, gb_refl _ _⟩
      case round =>
        clear hown hD hb
        obtain ⟨j, D, hj, rfl, hown, hD, hb, hgr⟩ := hrel
        rename World => x
        by_cases hjN : j < N
        · obtain ⟨b', off', ⟨s, q⟩, rfl, _, _, hz, p0, p1⟩ := Piles.at_ (hps.keep0 (gb_of_below hb none)) hjN
          have hmem : (s, q) ∈ pss.flatten := by
            rw [Hpre.out]
            exact List.mem_append_left _ (List.mem_append_right _ (List.mem_of_getElem? hz.out))
          have hsz : s.size ≤ 2000000 := Hs.out _ hmem
          have hq : 0 ≤ q ∧ q ≤ 99 := Hsm.out.1 _ hmem
          obtain ⟨hq0, hq1⟩ := hq
          have hkey : keyOf Try.prog 9 (.string s) = some (kS s) := keyOf_string_mk Try.underlying9 (by unfold maxLen; omega)
          have hes1 : es.length + j ≤ 2000000 := by
            have h1 := Hlen.out
            rw [Hpre.out, Hes.out] at h1
            simp only [List.length_append] at h1
            have := HN.out
            omega
          have hsm1 : Small (es ++ ps.take j) := small_sub Hsm.out (fun e he => by
            rw [Hpre.out, Hes.out]
            rcases List.mem_append.1 he with he | he
            · exact List.mem_append_left _ (List.mem_append_left _ he)
            · exact List.mem_append_left _ (List.mem_append_right _ (List.mem_of_mem_take he))) (by
            rw [Hpre.out, Hes.out]
            simp only [List.length_append, List.length_take]
            omega)
          have htb := tot_bound hsm1 s
          have hl1 : (es ++ ps.take j).length ≤ 2000000 := by
            simp only [List.length_append, List.length_take]
            omega
          obtain ⟨F, hF⟩ : ∃ F, tot (es ++ ps.take j) s = F := ⟨_, rfl⟩
          have HF := Lib.hid hF
          rw [hF] at htb
          have hF0 : 0 ≤ F := htb.1
          have hF1 : F ≤ 198000000 := by have := htb.2; omega
          have hstep : Hid (es ++ ps.take (j + 1) = (es ++ ps.take j) ++ [(s, q)]) := Lib.hid (by rw [take_succ_of hz.out, List.append_assoc])
          clear hmem htb hF hsm1 hl1
          have hj' : (j : Int) < (N : Int) := by omega
          have hj0 : (0 : Int) ≤ (j : Int) := by omega
          have hGa := gb_alloc (gb_refl x none) (.cells #[.string s, .int .i64 q] 66)
          have hown1 := om_keep hown hGa (by simp)
          have hba := hb.trans ((gb_below hGa).mono hb.size)
          have hvl := hD.out.val s
          have Hvl := Lib.hid hvl
          clear hvl hown
          go_wp2_with (first
            | (at_lookup; refine wpList_lookup_own_int _ rfl _ _ 92 rfl 9 3 .i64 keysLaw Try.underlying92 Try.underlying3 (zeroInt _) w.heap.size _ _ rfl hown1 _ _ rfl hkey ?_; intro c hat hwc; obtain rfl : c = F := by (rw [Hvl.out, HF.out] at hat; injection hat with hat; injection hat with _ hat; exact hat.symm))
            | (at_mapUpdate; refine wpList_mapUpdate_own _ rfl _ _ _ 92 rfl 9 3 keysLaw Try.underlying92 _ w.heap.size _ _ rfl hown1 (by unfold maxLen; omega) _ _ _ rfl rfl hkey _ [] (plainElem_int Try.underlying3 (WalkArith.wf_i64 (by omega))) ?_; intro w1 hown2 hgrow2))
          go_roundw
          case rel =>
            refine ⟨j + 1, D.put (kS s) (.lit (.int .i64 (c + q))), by omega, by go_num, hown2, Lib.hid ((hD.out.put s (c + q)).congr (fun t => ?_) (fun t => ?_)), below_grow hba hgrow2 (Nat.le_refl _) hba.size, gb_trans (gb_trans hgr (gb_of_below (gb_below hGa) _)) hgrow2⟩
            · show _ ↔ t ∈ (es ++ ps.take (j + 1)).map (·.1)
              rw [hstep.out, texts_snoc]
            · rw [hstep.out, tot_snoc, HF.out]
          case measure => simp [intOf]; omega
        · obtain rfl : j = N := by omega
          have hfin : Hid ((pss.take (k + 1)).flatten = es ++ ps.take j) := Lib.hid (by rw [Hsplit.out, Hes.out, List.take_of_length_le (by rw [HN.out]; exact Nat.le_refl _)])
          have hfl : Hid ((pss.take (k + 1)).flatten.length = es.length + j) := Lib.hid (by rw [Hsplit.out, Hes.out, List.length_append, HN.out])
          go_wp2
          go_roundw
          case rel => exact ⟨k + 1, D, by omega, by go_num, by rw [hfl.out]; exact hown, by rw [hfin.out]; exact hD, hb⟩
          case measure => simp [intOf]; omega
    · obtain rfl : k = n := by omega
      have hfin : (pss.take k).flatten = pss.flatten := by rw [List.take_of_length_le (by rw [hxl.out]; exact Nat.le_refl _)]
      rw [hfin] at hown hD
      clear hfin h hlt
      obtain ⟨es, hes⟩ : ∃ es, pss.flatten = es := ⟨_, rfl⟩
      rw [hes] at hown hD Hsm Hs Hlen
      have Hes := Lib.hid hes
      have hlen := Hlen.out
      have hsize := hown.size_le
      have hM := hown.lt
      clear hes
      go_wp2_with fail
      refine (callsIn_wide.1 (Try.maps_Keys_77 (some w.heap.size) wr)).mono ?_
      rintro e w1 ⟨rfl, rfl⟩
      go_wp2_with fail
      refine (callsIn_wide.1 (Try.slices_Sorted_keys_76_77 w.heap.size _ D _ wr hown (by unfold maxLen; omega) (by omega))).mono ?_
      rintro e w2 ⟨v, ss, rfl, hS, hrow, hnil, hb2⟩
      clear hnil
      have hcan := hD.out.canon Hsm.out hS
      obtain ⟨ts, hts⟩ : ∃ ts, inOrder ss = ts := ⟨_, rfl⟩
      have hsl : ss.length = ts.length := by rw [← hts, inOrder_len]
      have hrow2 : (ss.mergeSort (fun x y => decide (x ≤ y))).map encStr = ts.map Value.string := by rw [← hts, inOrder, List.map_map]; rfl
      rw [hts] at hcan
      obtain ⟨m, hm⟩ : ∃ m, ts.length = m := ⟨_, rfl⟩
      rw [hrow2, hsl, hm] at hrow
      have hcl : (canon es).length = m := by rw [← hcan, List.length_map, hm]
      have hm1 : m ≤ 2000000 := by have := canon_len es; omega
      obtain ⟨V, C, rfl, hv⟩ := Sl.of_own hrow
      have Hcan := Lib.hid hcan
      have Hm := Lib.hid hm
      have Hcl := Lib.hid hcl
      have hGk := gb_trans (gb_alloc (gb_refl wr none) (.cells #[.map (some w.heap.size)] 92)) (gb_of_below hb2 none)
      have hownk := om_keep hown hGk (by simp)
      have hbk : Below w.heap.size w w2 := hb.trans ((gb_below hGk).mono hb.size)
      clear hown hrow hrow2 hsl hcan hts hS hsize hm hcl hb
      have hbytes : ∀ p ∈ canon es, p.1.size ≤ 2000000 := canon_sizes Hs.out
      have Hbytes := Lib.hid hbytes
      clear hbytes
      go_wp2_with fail
      go_loopw [9, 38] (fun r i x => ∃ (j : Nat) (B : Option Addr) (c : Nat), j ≤ m ∧ r = .slice B j c ∧ i = .int .i64 j ∧ w2.grownBy x none ∧ x.ownsRow w2.heap.size 66 2 (.slice B j c) j (cellsOf plCells ((canon es).take j))) (fun _ i _ => m - (intOf i).toNat)
      case atStart => exact ⟨0, none, 0, Nat.zero_le _, rfl, rfl, gb_refl _ _, own_nil _ _ _ _⟩
      case round =>
        obtain ⟨j, B, c0, hj, rfl, rfl, hG, hown⟩ := hrel
        rename World => x
        by_cases hlt : j < m
        · obtain ⟨b, off, t, rfl, ht, p0⟩ := Strs.at_ (hv.keep0 hG) hlt
          have hj' : (j : Int) < (m : Int) := by omega
          have hj0 : (0 : Int) ≤ (j : Int) := by omega
          have hmk := om_keep hownk hG (by simp)
          have hce : Hid ((canon es)[j]? = some (t, tot es t)) := Lib.hid (by rw [← Hcan.out, List.getElem?_map, ht.out]; rfl)
          have htz : t.size ≤ 2000000 := Hbytes.out _ (List.mem_of_getElem? hce.out)
          have hkey : keyOf Try.prog 9 (.string t) = some (kS t) := keyOf_string_mk Try.underlying9 (by unfold maxLen; omega)
          obtain ⟨F, hF⟩ : ∃ F, tot es t = F := ⟨_, rfl⟩
          rw [hF] at hce
          have Hvl : Hid (D.atKey (kS t) (.lit (.int .i64 0)) = .lit (.int .i64 F)) := Lib.hid (by rw [← hF]; exact hD.out.val t)
          have hz1 := hG.size
          clear hF
          go_wp2_with (first
            | (at_lookup; refine wpList_lookup_own_int _ rfl _ _ 92 rfl 9 3 .i64 keysLaw Try.underlying92 Try.underlying3 (zeroInt _) w.heap.size _ _ rfl hmk _ _ rfl hkey ?_; intro c hat hwc; obtain rfl : F = c := by (rw [Hvl.out] at hat; injection hat with hat; injection hat with _ hat))
            | (at_builtin; refine wpList_app pileE rfl _ _ rfl w2.heap.size j _ _ rfl hown [_, _] rfl rfl (by simp [Value.oneCell']) (by omega) (by omega) hz1 ?_; intro D' d' w3 hown3 hb3 hg3 hat3))
          go_roundw
          case rel => exact ⟨j + 1, D', d', by omega, rfl, by go_num, gb_of_below ((gb_below hG).trans hb3) none, by rw [take_succ_of hce.out, cellsOf_append, cellsOf_one]; exact hown3⟩
          case measure => simp [intOf]; omega
        · obtain rfl : j = m := by omega
          rw [List.take_of_length_le (by rw [Hcl.out]; exact Nat.le_refl _)] at hown
          have hbx : Below w.heap.size w x := hbk.trans ((gb_below hG).mono hbk.size)
          have hG2 := gb_of_below hbx none
          have hok := own_lo hown hbk.size
          have hcall := c_impl_PilesValid _ B j c0 (canon es) x (Sl.own hown) Hbytes.out
          have hsv : pilesOK (canon es) = sumOK es := rfl
          rw [hsv] at hcall
          have Hc := Lib.hid hcall
          clear hcall hsv hown
          obtain ⟨O, hO⟩ : ∃ O, sumOK es = O := ⟨_, rfl⟩
          have HO := Lib.hid hO
          rw [hO] at Hc
          have hres : Hid (sumRes es = if O then canon es else []) := Lib.hid (by unfold sumRes; rw [hO])
          clear hO
          go_wp2_with fail
          refine Hc.out.mono ?_
          rintro e w4 ⟨rfl, hg4⟩
          have hG4 := gb_trans hG2 hg4
          have ho4 := own_lo (own_below hok hg4) (Nat.le_refl _)
          cases O with
          | false =>
            go_wp2
            go_ret2
            exact ⟨none, 0, by rw [Hes.out, hres.out, HO.out]; rfl, hG4, by rw [Hes.out, hres.out]; exact own_nil _ _ _ _⟩
          | true =>
            go_wp2
            go_ret2
            exact ⟨B, c0, by rw [Hes.out, hres.out, HO.out]; simp [Hcl.out], hG4, by rw [Hes.out, hres.out]; simp only [if_true, Hcl.out]; exact ho4⟩
end Go.Proofs.Ytifmljckmjnpfaa
