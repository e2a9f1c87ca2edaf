/-
  PrecinctsTotal: of the reference and of the program; PilesTotal.
-/
import Derived.Test.YtifmljckmjnpfaaPcts
import Derived.Test.YtifmljckmjnpfaaPilesOf
import Derived.Test.YtifmljckmjnpfaaKnownTail
namespace Go.Proofs.Ytifmljckmjnpfaa
open Go.RowKit
set_option linter.unusedVariables false

/-- The piles of precincts. -/
def pctEs (bs : List Pc) : List Pl := bs.flatMap (·.2)
def ptotOK (bs : List Pc) : Bool := pctsOK bs && pilesOK (canon (pctEs bs))
def ptotRes (bs : List Pc) : List Pl := if ptotOK bs then canon (pctEs bs) else []
theorem pctEs_step {bs : List Pc} {k : Nat} {b : Pc} (h : bs[k]? = some b) : pctEs (bs.take (k + 1)) = pctEs (bs.take k) ++ b.2 := by
  unfold pctEs
  rw [take_succ_of h, List.flatMap_append]
  simp
theorem pctEs_mem {bs : List Pc} {p : Pl} (h : p ∈ pctEs bs) : ∃ b ∈ bs, p ∈ b.2 := List.mem_flatMap.1 h
theorem canon_snoc (acc es : List Pl) (e : Pl) : canonFrom acc (es ++ [e]) = put (canonFrom acc es) e.1 e.2 := by
  rw [canonFrom_append, canonFrom_cons, canonFrom_nil]
theorem pctEs_sizes {bs : List Pc} {M : Nat} (h : ∀ b ∈ bs, ∀ p ∈ b.2, p.1.size ≤ M) : ∀ p ∈ pctEs bs, p.1.size ≤ M := by
  intro p hp
  obtain ⟨b, hb, hpb⟩ := pctEs_mem hp
  exact h b hb p hpb
theorem pflat_len {l : List Pc} (h : ∀ b ∈ l, b.2.length ≤ 12) : (pctEs l).length ≤ 12 * l.length := by
  induction l with
  | nil => simp [pctEs]
  | cons b l ih =>
    have h1 := ih (fun x hx => h x (List.mem_cons_of_mem _ hx))
    have h2 := h b (by simp)
    rw [show pctEs (b :: l) = b.2 ++ pctEs l from rfl, List.length_append, List.length_cons]
    omega
theorem pcts_small {bs : List Pc} (h : ∀ b ∈ bs, pilesOK b.2 = true) (hl : bs.length ≤ 6) : Small (pctEs bs) ∧ (pctEs bs).length ≤ 72 := by
  have h1 := pflat_len (fun b hb => ((pilesOK_iff _).1 (h b hb)).2.2)
  refine ⟨⟨fun e he => ?_, by omega⟩, by omega⟩
  obtain ⟨b, hb, hp⟩ := pctEs_mem he
  have := plOK_many (((pilesOK_iff _).1 (h b hb)).1 e hp)
  omega

attribute [local go_sem] flowAct flowOp_def flowUpon
set_option maxHeartbeats 2000000 in
theorem c_l41Total (lo : Nat) (A : Option Addr) (n cap : Nat) (bs : List Pc) (w : World) (h : Pcts w lo A n cap bs) (hlo : lo ≤ w.heap.size) (hn : n ≤ 1100000) (hp : ∀ b ∈ bs, b.2.length ≤ 1100000) :
    Calls Try.prog 59 #[.slice A n cap] w (PilesRes (canon (pctEs bs)) w) := by
  have hlc := h.le
  have hcm := h.max
  have hxl := Lib.hid h.len
  have Hp := Lib.hid hp
  clear hp
  go_enter Try.func59, Try.ntmps59
  go_wp2
  go_loopw [3, 4] (fun v i wr => ∃ (k : Nat) (B : Option Addr) (c m : Nat) (acc : List Pl), k ≤ n ∧ i = .int .i64 k ∧ v = .slice B m c ∧ w.grownBy wr none ∧ wr.ownsRow w.heap.size 66 2 (.slice B m c) m (cellsOf plCells acc) ∧ m ≤ 1100000 * k ∧ Hid (acc.length = m) ∧ Hid (acc = canon (pctEs (bs.take k)))) (fun _ i _ => n - (intOf i).toNat)
  case atStart => exact ⟨0, _, _, 0, [], Nat.zero_le _, rfl, rfl, gb_alloc (gb_refl _ _) _, own_empty _ _ _ _ (Nat.le_refl _), by omega, Lib.hid rfl, Lib.hid rfl⟩
  case round =>
    obtain ⟨k, B, c, m, acc, hk, rfl, rfl, hG, hown, hml, hal, hacc⟩ := hrel
    rename World => wr
    by_cases hlt : k < n
    · obtain ⟨b, off, id, ps, A', c', rfl, hp, hps, m0, m2⟩ := Pcts.at_ (Recs.keep0 h hG) hlt
      have hk' : (k : Int) < (n : Int) := by omega
      have hk0 : (0 : Int) ≤ (k : Int) := by omega
      have hpl := Lib.hid hps.len
      have hpn : ps.length ≤ 1100000 := Hp.out _ (List.mem_of_getElem? hp.out)
      obtain ⟨N, hN⟩ : ∃ N, ps.length = N := ⟨_, rfl⟩
      have HN := Lib.hid hN
      rw [hN] at hps m2 hpn
      clear hN
      have hlc' := hps.1
      have hcm' := Sl.max hps
      go_wp2
      go_loopw [3, 5] (fun v i x => ∃ (j : Nat) (B : Option Addr) (c m' : Nat) (acc' : List Pl), j ≤ N ∧ i = .int .i64 j ∧ v = .slice B m' c ∧ wr.grownBy x none ∧ x.ownsRow w.heap.size 66 2 (.slice B m' c) m' (cellsOf plCells acc') ∧ m' ≤ 1100000 * k + j ∧ Hid (acc'.length = m') ∧ Hid (acc' = canonFrom acc (ps.take j))) (fun _ i _ => N - (intOf i).toNat)
      case atStart => exact ⟨0, B, c, m, acc, Nat.zero_le _, rfl, rfl, gb_refl _ _, hown, by omega, hal, Lib.hid rfl⟩
      case round =>
        clear hown
        obtain ⟨j, B, c, m', acc', hj, rfl, rfl, hGx, hown, hml', hal', hacc'⟩ := hrel
        rename World => x
        have n2 := gb_cell hGx m2 (by simp)
        have hG' := gb_trans hG hGx
        by_cases hjN : j < N
        · have hj' : (j : Int) < (N : Int) := by omega
          have hj0 : (0 : Int) ≤ (j : Int) := by omega
          obtain ⟨b', off', ⟨s, q⟩, rfl, _, _, hz, p0, p1⟩ := Piles.at_ (hps.keep0 hGx) hjN
          have q0 := hps.1
          go_wp2_with fail
          refine wp_known_tail x [_, _, _, _, _, _, _, _, _, _, _, _, _, _, _, _, _, _, _] _ [.slice B m' c, .slice (some ⟨b, off, none⟩) n cap, .int .i64 k, .pointer (some ⟨b, off + k * 2, none⟩), .pointer (some ⟨b, off + k * 2 + 1, none⟩), .slice (some ⟨b', off', none⟩) N c', .int .i64 j, .pointer (some ⟨b', off' + j * 2, none⟩), .pointer (some ⟨b', off' + j * 2, none⟩), .string s,
            .slice (some ⟨b, off, none⟩) n cap, .int .i64 k, .pointer (some ⟨b, off + k * 2, none⟩), .pointer (some ⟨b, off + k * 2 + 1, none⟩), .slice (some ⟨b', off', none⟩) N c', .int .i64 j, .pointer (some ⟨b', off' + j * 2, none⟩), .pointer (some ⟨b', off' + j * 2 + 1, none⟩), .int .i64 q] rfl (gb_refl _ _) (by kernel_rfl) (by kernel_rfl) (by kernel_rfl) ?_ ?_
          · refine ⟨?_, ?_, ?_, ?_, ?_, ?_, ?_, ?_, ?_, ?_, ?_, ?_, ?_, ?_, ?_, ?_, ?_, ?_, ?_, trivial⟩
            all_goals
              intro nn u y hn hC hp
              simp [flowPreds, Region.binds, fKnown] at hp
              have y2 := gb_cell hC n2 (by simp)
              have y3 := gb_cell hC p0 (by simp)
              have y4 := gb_cell hC p1 (by simp)
              go_simp
            all_goals try exact ⟨gb_refl _ _, rfl⟩
          · intro u y hC hp'
            have e0 : u 0 = .slice B m' c := hp' 0 (by decide)
            have e9 : u 9 = .string s := hp' 9 (by decide)
            have e18 : u 18 = .int .i64 q := hp' 18 (by decide)
            have howny := own_below hown hC
            have hGy := gb_trans hG' hC
            go_simp
            go_wp2_with fail
            refine (c_l3Put w.heap.size B m' c acc' s q y (Sl.own howny) (by omega)).mono ?_
            rintro e w3 ⟨B3, c3, rfl, hg3, ho3⟩
            have ho := own_lo ho3 hGy.size
            have hpl3 := put_length acc' s q
            rw [hal'.out] at hpl3
            obtain ⟨M, hM⟩ : ∃ M, (put acc' s q).length = M := ⟨_, rfl⟩
            rw [hM] at ho hpl3
            rw [hM]
            have HM := Lib.hid hM
            clear hM ho3
            go_wp2
            go_roundw
            case rel => exact ⟨j + 1, B3, c3, M, put acc' s q, by omega, by go_num, rfl, gb_trans (gb_trans hGx hC) hg3, ho, by omega, HM, Lib.hid (by rw [take_succ_of hz.out, canon_snoc, hacc'.out])⟩
            case measure => simp [intOf]; omega
        · obtain rfl : j = N := by omega
          go_wp2
          go_roundw
          case rel => exact ⟨k + 1, B, c, m', acc', by omega, by go_num, rfl, hG', hown, by omega, hal', Lib.hid (by
            rw [hacc'.out, List.take_of_length_le (by rw [HN.out]; exact Nat.le_refl _), hacc.out, pctEs_step hp.out]
            show _ = canonFrom [] _
            rw [canonFrom_append]; rfl)⟩
          case measure => simp [intOf]; omega
    · obtain rfl : k = n := by omega
      have hfin : Hid (acc = canon (pctEs bs)) := Lib.hid (by rw [hacc.out, List.take_of_length_le (by rw [hxl.out]; exact Nat.le_refl _)])
      go_wp2
      go_ret
      exact ⟨B, c, by rw [← hfin.out, hal.out]; rfl, hG, by rw [← hfin.out, hal.out]; exact hown⟩

set_option maxHeartbeats 1000000 in
theorem c_spec_PrecinctsTotal (lo : Nat) (A : Option Addr) (n cap : Nat) (bs : List Pc) (w : World) (h : Pcts w lo A n cap bs) (hlo : lo ≤ w.heap.size) (hn : n ≤ 1100000) (hp : ∀ b ∈ bs, b.2.length ≤ 1100000) (hs : ∀ b ∈ bs, ∀ p ∈ b.2, p.1.size ≤ 2000000) :
    Calls Try.prog 31 #[.slice A n cap] w (PilesOkRes (ptotRes bs) (ptotOK bs) w) := by
  have Hs := Lib.hid hs
  have hcz := Lib.hid (canon_sizes (pctEs_sizes hs))
  clear hs
  obtain ⟨V, hV⟩ : ∃ V, pctsOK bs = V := ⟨_, rfl⟩
  have HV := Lib.hid hV
  obtain ⟨O, hO⟩ : ∃ O, pilesOK (canon (pctEs bs)) = O := ⟨_, rfl⟩
  have HO := Lib.hid hO
  have hok : Hid (ptotOK bs = (V && O)) := Lib.hid (by rw [ptotOK, hV, hO])
  have hres : Hid (ptotRes bs = if (V && O) = true then canon (pctEs bs) else []) := Lib.hid (by rw [ptotRes, hok.out])
  have hcall := c_l41Total lo A n cap bs w h hlo hn hp
  have Hcall := Lib.hid hcall
  clear hcall hV hO hp
  obtain ⟨L, hL⟩ : ∃ L, (canon (pctEs bs)).length = L := ⟨_, rfl⟩
  have HL := Lib.hid hL
  clear hL
  go_enter Try.func31, Try.ntmps31
  go_wp2_with fail
  refine Hcall.out.mono ?_
  rintro e w1 ⟨B, c, rfl, hg1, ho1⟩
  rw [HL.out] at ho1
  rw [HL.out]
  have hI := Recs.keep0 h hg1
  go_wp2_with fail
  refine (c_spec_PrecinctsValid lo A n cap bs _ hI Hs.out).mono ?_
  rintro e w2 ⟨rfl, hg2⟩
  rw [HV.out]
  have hG2 := gb_trans hg1 hg2
  have ho2 := own_below ho1 hg2
  cases V with
  | false =>
    go_wp2
    go_ret2
    exact ⟨_, 0, by rw [hok.out, hres.out]; rfl, gb_alloc hG2 _, by rw [hres.out]; exact own_empty _ _ _ _ hG2.size⟩
  | true =>
    have hcall := c_spec_PilesValid _ B L c (canon (pctEs bs)) _ (Sl.own ho2) hcz.out
    rw [HO.out] at hcall
    go_wp2_with fail
    refine hcall.mono ?_
    rintro e w3 ⟨rfl, hg3⟩
    have hG3 := gb_trans hG2 hg3
    have ho3 := own_below ho2 hg3
    cases O with
    | false =>
      go_wp2
      go_ret2
      exact ⟨_, 0, by rw [hok.out, hres.out]; rfl, gb_alloc hG3 _, by rw [hres.out]; exact own_empty _ _ _ _ hG3.size⟩
    | true =>
      go_wp2
      go_ret2
      exact ⟨B, c, by rw [hok.out, hres.out]; simp [HL.out], hG3, by rw [hres.out]; simp only [Bool.and_self, if_true, HL.out]; exact ho3⟩

/-- Precincts that read as a list, with where their piles lie. -/
def PctsH (w : World) (lo : Nat) (A : Option Addr) (n cap : Nat) (bs : List Pc) (hs : List Hd) : Prop :=
  hs.length = bs.length ∧ Sl w lo 2 A n cap (cellsOf pcRec.cells (bs.zip hs)) ∧ ∀ (k : Nat) (x : Pc) (h : Hd), bs[k]? = some x → hs[k]? = some h → Piles w lo h.1 x.2.length h.2 x.2
theorem PctsH.keep0 {w w' : World} {lo n cap : Nat} {A : Option Addr} {bs : List Pc} {hs : List Hd} (h : PctsH w lo A n cap bs hs) (hg : w.grownBy w' none) : PctsH w' lo A n cap bs hs :=
  ⟨h.1, h.2.1.keep0 hg, fun k x y hx hy => (h.2.2 k x y hx hy).keep0 hg⟩
theorem PctsH.at_ {w : World} {lo n cap k : Nat} {A : Option Addr} {bs : List Pc} {hs : List Hd} (h : PctsH w lo A n cap bs hs) (hn : bs.length = n) (hk : k < n) : ∃ b off id ps A' c', A = some ⟨b, off, none⟩ ∧ Hid (bs[k]? = some (id, ps)) ∧ Hid (hs[k]? = some (A', c')) ∧
    w.cell? ⟨b, off + k * 2, none⟩ = some (.int .i64 id) ∧ w.cell? ⟨b, off + k * 2 + 1, none⟩ = some (.slice A' ps.length c') := by
  obtain ⟨h1, h2, h3⟩ := h
  obtain ⟨b, off, rfl, hlo, hb, hc⟩ := h2.2.2.2 (by omega)
  obtain ⟨⟨id, ps⟩, hx⟩ : ∃ x, bs[k]? = some x := ⟨_, List.getElem?_eq_getElem (by omega)⟩
  obtain ⟨⟨A', c'⟩, hh⟩ : ∃ y, hs[k]? = some y := ⟨_, List.getElem?_eq_getElem (by omega)⟩
  have hz : (bs.zip hs)[k]? = some ((id, ps), (A', c')) := by rw [List.getElem?_zip_eq_some]; exact ⟨hx, hh⟩
  refine ⟨b, off, id, ps, A', c', rfl, Lib.hid hx, Lib.hid hh, ?_, ?_⟩
  · exact hc (k * 2) _ (by have := cellsOf_at pcRec.cells_len hz (j := 0) (by decide); exact this)
  · rw [Nat.add_assoc]
    exact hc (k * 2 + 1) _ (cellsOf_at pcRec.cells_len hz (j := 1) (by decide))

theorem sliceInfo : (Try.prog.info? 33).map (fun i => (i.zero, i.size, i.bytes)) = some (some (.slice none 0 0), 1, 24) := by kernel_rfl
theorem sliceE : Elem Try.prog 90 33 1 24 (.slice none 0 0) := ⟨Try.underlying90, info_parts sliceInfo, rfl, by omega⟩

set_option maxHeartbeats 1000000 in
theorem c_precinctPiles (lo : Nat) (A : Option Addr) (n cap : Nat) (bs : List Pc) (w : World) (h : Pcts w lo A n cap bs) (hlo : lo ≤ w.heap.size) (hn : n ≤ 2000000) (hsm : Small (pctEs bs)) (hln : (pctEs bs).length ≤ 2000000) (hs : ∀ b ∈ bs, ∀ p ∈ b.2, p.1.size ≤ 2000000) :
    Calls Try.prog 58 #[.slice A n cap] w (PilesOkRes (sumRes (pctEs bs)) (sumOK (pctEs bs)) w) := by
  have Hs := Lib.hid hs
  have Hsm := Lib.hid hsm
  have Hln := Lib.hid hln
  have hlc := h.le
  have hcm := h.max
  have hml := Lib.hid h.len
  clear hs hsm hln
  obtain ⟨hs, hL⟩ : ∃ hs, PctsH w lo A n cap bs hs := h
  have hhl := Lib.hid hL.1
  obtain ⟨pss, hpss⟩ : ∃ pss, bs.map (·.2) = pss := ⟨_, rfl⟩
  have Hpss := Lib.hid hpss
  clear hpss
  go_enter Try.func58, Try.ntmps58
  go_wp2
  go_loopw [4, 9] (fun v i wr => ∃ (k : Nat) (D : Option Addr) (d : Nat), k ≤ n ∧ i = .int .i64 k ∧ v = .slice D k d ∧ w.grownBy wr none ∧ wr.ownsRow w.heap.size 33 1 (.slice D k d) k (cellsOf plsRec.cells ((pss.zip hs).take k))) (fun _ i _ => n - (intOf i).toNat)
  case atStart => exact ⟨0, _, _, Nat.zero_le _, rfl, rfl, gb_refl _ _, own_nil _ _ _ _⟩
  case round =>
    obtain ⟨k, D, d, hk, rfl, rfl, hGr, hown⟩ := hrel
    rename World => wr
    by_cases hlt : k < n
    · obtain ⟨b, off, id, ps, A', c', rfl, hp, hh, m0, m1⟩ := (hL.keep0 hGr).at_ hml.out hlt
      have hk' : (k : Int) < (n : Int) := by omega
      have hk0 : (0 : Int) ≤ (k : Int) := by omega
      have hid : Hid ((pss.zip hs)[k]? = some (ps, (A', c'))) := Lib.hid (by rw [List.getElem?_zip_eq_some, ← Hpss.out, List.getElem?_map, hp.out, hh.out]; exact ⟨rfl, rfl⟩)
      obtain ⟨N, hN⟩ : ∃ N, ps.length = N := ⟨_, rfl⟩
      have hcell : Hid (plsRec.cells (ps, (A', c')) = [.slice A' N c']) := Lib.hid (by rw [← hN]; rfl)
      rw [hN] at m1
      clear hN
      have hGa := gb_alloc (gb_alloc (gb_refl wr none) (.cells #[.int .i64 id, .slice A' N c'] 35)) (.cells #[.slice A' N c'] 33)
      have hown1 := own_below hown hGa
      have hz3 := Nat.le_trans hGr.size hGa.size
      have hBn := Blk.new (wr.alloc (.cells #[.int .i64 id, .slice A' N c'] 35)) 33 #[.slice A' N c']
      rw [show (wr.alloc (.cells #[.int .i64 id, .slice A' N c'] 35)).heap.size = wr.heap.size + 1 from by simp] at hBn
      go_wp2_with (at_builtin; refine wpList_appB sliceE rfl _ _ rfl w.heap.size k _ _ rfl hown1 (wr.heap.size + 1) [_] rfl hBn rfl (by simp [Value.oneCell']) (by omega) (by omega) hz3 ?_; intro D' d' w3 hown3 hb3 hg3 hat3)
      go_roundw
      case rel => exact ⟨k + 1, D', d', by omega, by go_num, rfl, gb_of_below ((gb_below (gb_trans hGr hGa)).trans hb3) none, by rw [take_succ_of hid.out, cellsOf_append, cellsOf_one, hcell.out]; exact hown3⟩
      case measure => simp [intOf]; omega
    · obtain rfl : k = n := by omega
      have hpl : pss.length = k := by rw [← Hpss.out, List.length_map]; exact hml.out
      have hzl : (pss.zip hs).length = k := by rw [List.length_zip, hpl, hhl.out, hml.out]; simp
      rw [List.take_of_length_le (by rw [hzl]; exact Nat.le_refl _)] at hown
      have hflat : pss.flatten = pctEs bs := by rw [← Hpss.out]; rfl
      have hLr := hL.keep0 hGr
      have hplss : Plss wr lo D k d pss := ⟨hs, by rw [hhl.out, hml.out, hpl], (Sl.own hown).mono hlo, fun j x hd hx hj => by
        rw [← Hpss.out, List.getElem?_map] at hx
        cases hb : bs[j]? with
        | none => rw [hb] at hx; cases hx
        | some b =>
          rw [hb] at hx
          injection hx with hx
          subst hx
          exact hLr.2.2 j b hd hb hj⟩
      have hcall := c_pilesOf lo D k d pss wr hplss (by rw [hflat]; exact Hsm.out) (by rw [hflat]; exact Hln.out) (by rw [hflat]; exact pctEs_sizes Hs.out)
      rw [hflat] at hcall
      have Hcall := Lib.hid hcall
      clear hcall hplss hflat hzl hpl hown hLr
      go_wp2_with fail
      refine Hcall.out.mono ?_
      rintro e w3 ⟨B3, c3, rfl, hg3, ho3⟩
      go_wp2
      go_ret2
      exact ⟨B3, c3, rfl, gb_trans hGr hg3, own_lo ho3 hGr.size⟩

theorem pctsOK_len {bs : List Pc} (h : pctsOK bs = true) : bs.length ≤ 6 := by
  unfold pctsOK at h
  simp only [Bool.and_eq_true, decide_eq_true_eq] at h
  exact h.2
theorem pctsOK_piles {bs : List Pc} (h : pctsOK bs = true) : ∀ b ∈ bs, pilesOK b.2 = true := by
  intro b hb
  obtain ⟨k, hk⟩ := List.mem_iff_getElem?.1 hb
  rcases hv : pcOK b with _ | _
  · have := pcts_bad hk (by rw [hv]; rfl)
    rw [h] at this
    cases this
  · unfold pcOK at hv
    rw [Bool.and_eq_true] at hv
    exact hv.2

set_option maxHeartbeats 1000000 in
theorem c_impl_PrecinctsTotal (lo : Nat) (A : Option Addr) (n cap : Nat) (bs : List Pc) (w : World) (h : Pcts w lo A n cap bs) (hlo : lo ≤ w.heap.size) (hn : n ≤ 2000000) (hs : ∀ b ∈ bs, ∀ p ∈ b.2, p.1.size ≤ 2000000) :
    Calls Try.prog 30 #[.slice A n cap] w (PilesOkRes (ptotRes bs) (ptotOK bs) w) := by
  have Hs := Lib.hid hs
  clear hs
  obtain ⟨V, hV⟩ : ∃ V, pctsOK bs = V := ⟨_, rfl⟩
  have HV := Lib.hid hV
  clear hV
  go_enter Try.func30, Try.ntmps30
  go_wp2_with fail
  refine (c_impl_PrecinctsValid lo A n cap bs _ h Hs.out).mono ?_
  rintro e w1 ⟨rfl, hg1⟩
  rw [HV.out]
  cases V with
  | false =>
    have hok : ptotOK bs = false := by rw [ptotOK, HV.out]; rfl
    have hres : ptotRes bs = [] := by rw [ptotRes, hok]; rfl
    have Hok := Lib.hid hok
    have Hres := Lib.hid hres
    clear hok hres
    go_wp2
    go_ret2
    exact ⟨none, 0, by rw [Hok.out, Hres.out]; rfl, hg1, by rw [Hres.out]; exact own_nil _ _ _ _⟩
  | true =>
    have hz1 := hg1.size
    have hsm := pcts_small (pctsOK_piles HV.out) (pctsOK_len HV.out)
    have hcall := c_precinctPiles lo A n cap bs _ (Recs.keep0 h hg1) (by omega) hn hsm.1 (by have := hsm.2; omega) Hs.out
    have hsv : sumOK (pctEs bs) = ptotOK bs := by rw [ptotOK, HV.out]; rfl
    have hsr : sumRes (pctEs bs) = ptotRes bs := by rw [sumRes, ptotRes, hsv]
    rw [hsv, hsr] at hcall
    have Hcall := Lib.hid hcall
    clear hcall hsv hsr hsm
    go_wp2_with fail
    refine Hcall.out.mono ?_
    rintro e w3 ⟨B3, c3, rfl, hg3, ho3⟩
    go_wp2
    go_ret2
    exact ⟨B3, c3, rfl, gb_trans hg1 hg3, own_lo ho3 hg1.size⟩
end Go.Proofs.Ytifmljckmjnpfaa
