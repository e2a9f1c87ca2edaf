/-
  BatchesTotal and PilesTotal of the program.
-/
import Derived.Test.YtbhchlnbhimcpaaTotalS
namespace Go.Proofs.Ytbhchlnbhimcpaa
open Go.RowKit
set_option linter.unusedVariables false

theorem batchesOK_all {bs : List Bt} (h : batchesOK bs = true) : (∀ b ∈ bs, btOK b = true) ∧ bs.length ≤ 8 := by
  constructor
  · intro b hb
    obtain ⟨k, hk⟩ := List.mem_iff_getElem?.1 hb
    rcases hv : btOK b with _ | _
    · have := batches_bad hk (by rw [hv]; rfl)
      rw [h] at this
      cases this
    · rfl
  · unfold batchesOK at h
    simp only [Bool.and_eq_true, decide_eq_true_eq] at h
    exact h.2
theorem btOK_piles {b : Bt} (h : btOK b = true) : pilesOK b.2.2 = true := by
  unfold btOK at h
  simp only [Bool.and_eq_true] at h
  exact h.2
theorem flatMap_len {l : List Bt} (h : ∀ b ∈ l, b.2.2.length ≤ 12) : (l.flatMap (·.2.2)).length ≤ 12 * l.length := by
  induction l with
  | nil => simp
  | cons b l ih =>
    have h1 := ih (fun x hx => h x (List.mem_cons_of_mem _ hx))
    have h2 := h b (by simp)
    rw [List.flatMap_cons, List.length_append, List.length_cons]
    omega
theorem live_small {bs : List Bt} (h : batchesOK bs = true) : Small (liveEs bs) ∧ (liveEs bs).length ≤ 96 := by
  obtain ⟨h1, h2⟩ := batchesOK_all h
  have hl : (liveEs bs).length ≤ 12 * (live bs).length := flatMap_len (fun b hb => ((pilesOK_iff _).1 (btOK_piles (h1 b (List.mem_filter.1 hb).1))).2.2)
  have hl2 : (live bs).length ≤ bs.length := List.length_filter_le _ _
  refine ⟨⟨fun e he => ?_, by omega⟩, by omega⟩
  obtain ⟨b, hb, hp⟩ := liveOf_mem he
  have := plOK_many (((pilesOK_iff _).1 (btOK_piles (h1 b hb))).1 e hp)
  omega

/-- Batches that read as a list, with where their piles lie. -/
def BatsH (w : World) (lo : Nat) (A : Option Addr) (n cap : Nat) (bs : List Bt) (hs : List Hd) : Prop :=
  hs.length = bs.length ∧ Sl w lo 3 A n cap (cellsOf btRec.cells (bs.zip hs)) ∧ ∀ (k : Nat) (x : Bt) (h : Hd), bs[k]? = some x → hs[k]? = some h → Piles w lo h.1 x.2.2.length h.2 x.2.2
theorem BatsH.keep0 {w w' : World} {lo n cap : Nat} {A : Option Addr} {bs : List Bt} {hs : List Hd} (h : BatsH w lo A n cap bs hs) (hg : w.grownBy w' none) : BatsH w' lo A n cap bs hs :=
  ⟨h.1, h.2.1.keep0 hg, fun k x y hx hy => (h.2.2 k x y hx hy).keep0 hg⟩
theorem BatsH.at_ {w : World} {lo n cap k : Nat} {A : Option Addr} {bs : List Bt} {hs : List Hd} (h : BatsH w lo A n cap bs hs) (hn : bs.length = n) (hk : k < n) : ∃ b off id over ps A' c', A = some ⟨b, off, none⟩ ∧ Hid (bs[k]? = some (id, over, ps)) ∧ Hid (hs[k]? = some (A', c')) ∧
    w.cell? ⟨b, off + k * 3, none⟩ = some (.int .i64 id) ∧ w.cell? ⟨b, off + k * 3 + 1, none⟩ = some (.int .i64 over) ∧ w.cell? ⟨b, off + k * 3 + 2, none⟩ = some (.slice A' ps.length c') := by
  obtain ⟨h1, h2, h3⟩ := h
  obtain ⟨b, off, rfl, hlo, hb, hc⟩ := h2.2.2.2 (by omega)
  obtain ⟨⟨id, over, ps⟩, hx⟩ : ∃ x, bs[k]? = some x := ⟨_, List.getElem?_eq_getElem (by omega)⟩
  obtain ⟨⟨A', c'⟩, hh⟩ : ∃ y, hs[k]? = some y := ⟨_, List.getElem?_eq_getElem (by omega)⟩
  have hz : (bs.zip hs)[k]? = some ((id, over, ps), (A', c')) := by rw [List.getElem?_zip_eq_some]; exact ⟨hx, hh⟩
  refine ⟨b, off, id, over, ps, A', c', rfl, Lib.hid hx, Lib.hid hh, ?_, ?_, ?_⟩
  · exact hc (k * 3) _ (by have := cellsOf_at btRec.cells_len hz (j := 0) (by omega); exact this)
  · rw [Nat.add_assoc]
    exact hc (k * 3 + 1) _ (cellsOf_at btRec.cells_len hz (j := 1) (by decide))
  · rw [Nat.add_assoc]
    exact hc (k * 3 + 2) _ (cellsOf_at btRec.cells_len hz (j := 2) (by decide))

theorem sliceInfo : (Try.prog.info? 34).map (fun i => (i.zero, i.size, i.bytes)) = some (some (.slice none 0 0), 1, 24) := by kernel_rfl
theorem sliceE : Elem Try.prog 75 34 1 24 (.slice none 0 0) := ⟨Try.underlying75, info_parts sliceInfo, rfl, by omega⟩

set_option maxHeartbeats 1000000 in
theorem c_impl_BatchesTotal (lo : Nat) (A : Option Addr) (n cap : Nat) (bs : List Bt) (w : World) (h : Bats w lo A n cap bs) (hlo : lo ≤ w.heap.size) (hn : n ≤ 2000000) (hs : ∀ b ∈ bs, ∀ p ∈ b.2.2, p.1.size ≤ 2000000) :
    Calls Try.prog 37 #[.slice A n cap] w (PilesOkRes (totRes bs) (totOK bs) w) := by
  have Hs := Lib.hid hs
  clear hs
  obtain ⟨V, hV⟩ : ∃ V, batchesOK bs = V := ⟨_, rfl⟩
  have HV := Lib.hid hV
  clear hV
  go_enter Try.func37, Try.ntmps37
  go_wp2_with fail
  refine (c_impl_BatchesValid lo A n cap bs _ h Hs.out).mono ?_
  rintro e w1 ⟨rfl, hg1⟩
  rw [HV.out]
  cases V with
  | false =>
    have hok : totOK bs = false := by rw [totOK, HV.out]; rfl
    have hres : totRes bs = [] := by rw [totRes, hok]; rfl
    have Hok := Lib.hid hok
    have Hres := Lib.hid hres
    clear hok hres
    go_wp2
    go_ret2
    exact ⟨none, 0, by rw [Hok.out, Hres.out]; rfl, hg1, by rw [Hres.out]; exact own_nil _ _ _ _⟩
  | true =>
    have hz1 := hg1.size
    have hsm := Lib.hid (live_small HV.out)
    go_wp2_with fail
    refine (c_liveBatches lo A n cap bs _ (Recs.keep0 h hg1) (by omega) hn).mono ?_
    rintro e w2 ⟨B, m, c, rfl, hg2, hL⟩
    have hlc := hL.le
    have hcm := hL.max
    have hml := Lib.hid hL.len
    have hG := gb_trans hg1 hg2
    have hm : m ≤ 2000000 := by
      have h1 := h.len
      have h2 : (live bs).length ≤ bs.length := List.length_filter_le _ _
      have := hml.out
      omega
    obtain ⟨hs, hL⟩ : ∃ hs, BatsH w2 lo B m c (live bs) hs := hL
    have hhl := Lib.hid hL.1
    obtain ⟨pss, hpss⟩ : ∃ pss, (live bs).map (·.2.2) = pss := ⟨_, rfl⟩
    have Hpss := Lib.hid hpss
    clear hpss
    go_wp2
    go_loopw [4, 13] (fun v i wr => ∃ (k : Nat) (D : Option Addr) (d : Nat), k ≤ m ∧ i = .int .i64 k ∧ v = .slice D k d ∧ w2.grownBy wr none ∧ wr.ownsRow w2.heap.size 34 1 (.slice D k d) k (cellsOf plsRec.cells ((pss.zip hs).take k))) (fun _ i _ => m - (intOf i).toNat)
    case atStart => exact ⟨0, _, _, Nat.zero_le _, rfl, rfl, gb_refl _ _, own_nil _ _ _ _⟩
    case round =>
      obtain ⟨k, D, d, hk, rfl, rfl, hGr, hown⟩ := hrel
      rename World => wr
      by_cases hlt : k < m
      · obtain ⟨b, off, id, over, ps, A', c', rfl, hp, hh, m0, m1, m2⟩ := (hL.keep0 hGr).at_ hml.out hlt
        have hk' : (k : Int) < (m : Int) := by omega
        have hk0 : (0 : Int) ≤ (k : Int) := by omega
        have hid : Hid ((pss.zip hs)[k]? = some (ps, (A', c'))) := Lib.hid (by rw [List.getElem?_zip_eq_some, ← Hpss.out, List.getElem?_map, hp.out, hh.out]; exact ⟨rfl, rfl⟩)
        obtain ⟨N, hN⟩ : ∃ N, ps.length = N := ⟨_, rfl⟩
        have hcell : Hid (plsRec.cells (ps, (A', c')) = [.slice A' N c']) := Lib.hid (by rw [← hN]; rfl)
        rw [hN] at m2
        clear hN
        have hGa := gb_alloc (gb_alloc (gb_refl wr none) (.cells #[.int .i64 id, .int .i64 over, .slice A' N c'] 36)) (.cells #[.slice A' N c'] 34)
        have hown1 := own_below hown hGa
        have hz3 := Nat.le_trans hGr.size hGa.size
        have hBn := Blk.new (wr.alloc (.cells #[.int .i64 id, .int .i64 over, .slice A' N c'] 36)) 34 #[.slice A' N c']
        rw [show (wr.alloc (.cells #[.int .i64 id, .int .i64 over, .slice A' N c'] 36)).heap.size = wr.heap.size + 1 from by simp] at hBn
        go_wp2_with (at_builtin; refine wpList_appB sliceE rfl _ _ rfl w2.heap.size k _ _ rfl hown1 (wr.heap.size + 1) [_] rfl hBn rfl (by simp [Value.oneCell']) (by omega) (by omega) hz3 ?_; intro D' d' w3 hown3 hb3 hg3 hat3)
        go_roundw
        case rel => exact ⟨k + 1, D', d', by omega, by go_num, rfl, gb_of_below ((gb_below (gb_trans hGr hGa)).trans hb3) none, by rw [take_succ_of hid.out, cellsOf_append, cellsOf_one, hcell.out]; exact hown3⟩
        case measure => simp [intOf]; omega
      · obtain rfl : k = m := by omega
        have hpl : pss.length = k := by rw [← Hpss.out, List.length_map]; exact hml.out
        have hzl : (pss.zip hs).length = k := by rw [List.length_zip, hpl, hhl.out, hml.out]; simp
        rw [List.take_of_length_le (by rw [hzl]; exact Nat.le_refl _)] at hown
        have hflat : pss.flatten = liveEs bs := by rw [← Hpss.out]; rfl
        have hLr := hL.keep0 hGr
        have hplss : Plss wr lo D k d pss := ⟨hs, by rw [hhl.out, hml.out, hpl], (Sl.own hown).mono (Nat.le_trans hlo hG.size), fun j x hd hx hj => by
          rw [← Hpss.out, List.getElem?_map] at hx
          cases hb : (live bs)[j]? with
          | none => rw [hb] at hx; cases hx
          | some b =>
            rw [hb] at hx
            injection hx with hx
            subst hx
            exact hLr.2.2 j b hd hb hj⟩
        have hcall := c_pilesOf lo D k d pss wr hplss (by rw [hflat]; exact hsm.out.1) (by rw [hflat]; have := hsm.out.2; omega) (by rw [hflat]; exact liveEs_sizes Hs.out)
        rw [hflat] at hcall
        have hsv : sumOK (liveEs bs) = totOK bs := by rw [totOK, HV.out]; rfl
        have hsr : sumRes (liveEs bs) = totRes bs := by rw [sumRes, totRes, hsv]
        rw [hsv, hsr] at hcall
        have Hcall := Lib.hid hcall
        have hG3 := gb_trans hG hGr
        clear hcall hsv hsr hplss hflat hzl hpl hown hLr
        go_wp2_with fail
        refine Hcall.out.mono ?_
        rintro e w3 ⟨B3, c3, rfl, hg3, ho3⟩
        go_wp2
        go_ret2
        exact ⟨B3, c3, rfl, gb_trans hG3 hg3, own_lo ho3 hG3.size⟩

/-! ### PilesTotal -/
def sumPl (ps : List Pl) : Int := (ps.map (·.2)).sum
def pTotal (ps : List Pl) : Int := if pilesOK ps then sumPl ps else -1
theorem sumPl_snoc (ps : List Pl) (p : Pl) : sumPl (ps ++ [p]) = sumPl ps + p.2 := by simp [sumPl]
theorem sumPl_bound {ps : List Pl} (h : ∀ p ∈ ps, plOK p = true) : 0 ≤ sumPl ps ∧ sumPl ps ≤ 99 * ps.length := by
  induction ps with
  | nil => simp [sumPl]
  | cons p ps ih =>
    have h1 := ih (fun x hx => h x (List.mem_cons_of_mem _ hx))
    have h2 := plOK_many (h p (by simp))
    have h3 : sumPl (p :: ps) = p.2 + sumPl ps := by simp [sumPl]
    rw [h3, List.length_cons]
    omega

set_option maxHeartbeats 1000000 in
theorem c_impl_PilesTotal (lo : Nat) (A : Option Addr) (n cap : Nat) (ps : List Pl) (w : World) (h : Piles w lo A n cap ps) (hs : ∀ p ∈ ps, p.1.size ≤ 2000000) :
    Calls Try.prog 40 #[.slice A n cap] w fun e w' => e = .returned (.int .i64 (pTotal ps)) ∧ w.grownBy w' none := by
  have hlc := h.1
  have hcm := Sl.max h
  have hxl := Lib.hid h.len
  have Hs := Lib.hid hs
  clear hs
  obtain ⟨V, hV⟩ : ∃ V, pilesOK ps = V := ⟨_, rfl⟩
  have HV := Lib.hid hV
  clear hV
  go_enter Try.func40, Try.ntmps40
  go_wp2_with fail
  refine (c_impl_PilesValid lo A n cap ps _ h Hs.out).mono ?_
  rintro e w1 ⟨rfl, hg1⟩
  rw [HV.out]
  cases V with
  | false =>
    go_wp2
    go_ret
    exact ⟨ret_int (by rw [pTotal, HV.out]; rfl), hg1⟩
  | true =>
    have hall := ((pilesOK_iff _).1 HV.out)
    have Hall := Lib.hid hall.1
    have hn12 : n ≤ 12 := by have := hall.2.2; rw [hxl.out] at this; exact this
    clear hall
    go_wp2
    go_loopw [3, 11] (fun v i wr => ∃ (k : Nat) (F : Int), k ≤ n ∧ i = .int .i64 k ∧ v = .int .i64 F ∧ 0 ≤ F ∧ F ≤ 99 * k ∧ Hid (F = sumPl (ps.take k)) ∧ w.grownBy wr none) (fun _ i _ => n - (intOf i).toNat)
    case atStart => exact ⟨0, 0, Nat.zero_le _, rfl, rfl, by omega, by omega, Lib.hid rfl, hg1⟩
    case round =>
      obtain ⟨k, F, hk, rfl, rfl, hF0, hF1, hF, hG⟩ := hrel
      by_cases hlt : k < n
      · obtain ⟨b, off, ⟨s, q⟩, rfl, _, _, hz, p0, p1⟩ := Piles.at_ (h.keep0 hG) hlt
        have hk' : (k : Int) < (n : Int) := by omega
        have hk0 : (0 : Int) ≤ (k : Int) := by omega
        have hq : 1 ≤ q ∧ q ≤ 99 := plOK_many (Hall.out _ (List.mem_of_getElem? hz.out))
        go_wp2
        go_roundw
        case rel => exact ⟨k + 1, F + q, by omega, by go_num, rfl, by omega, by omega, Lib.hid (by rw [take_succ_of hz.out, sumPl_snoc, hF.out]), gb_alloc hG _⟩
        case measure => simp [intOf]; omega
      · obtain rfl : k = n := by omega
        go_wp2
        go_ret
        exact ⟨ret_int (by rw [pTotal, HV.out, if_pos rfl, hF.out, List.take_of_length_le (by rw [hxl.out]; exact Nat.le_refl _)]), hG⟩
end Go.Proofs.Ytbhchlnbhimcpaa
