/-
  Rounds of a runoff in memory; the rounds by the program and by the reference.
-/
import Derived.Test.YtboobimpoddacaaGreatDoorConD
namespace Go.Proofs.YtboobimpoddacaaGreatDoor
open Go.RowKit
set_option linter.unusedVariables false

theorem own_adr {w : World} {lo e n c : Nat} {A : Option Addr} {xs : List Value} (h : w.ownsRow lo e 1 (.slice A n c) n xs) (hn : 0 < n) : ∃ g, A = some ⟨g, 0, none⟩ ∧ lo ≤ g ∧ g < w.heap.size := by
  obtain ⟨h1, h2⟩ := h
  rcases h2 with ⟨e1, e2⟩ | ⟨g, cap, cur, e1, hg, hh, _⟩
  · omega
  · injection e1 with e1
    exact ⟨g, e1, hg, Blk.lt hh⟩
theorem own_cell {w : World} {lo e n c g k : Nat} {xs : List Value} (h : w.ownsRow lo e 1 (.slice (some ⟨g, 0, none⟩) n c) n xs) (hk : k < n) : ∃ u, w.cell? ⟨g, k, none⟩ = some u := by
  obtain ⟨b, off, u, he, _, hc⟩ := (Sl.own h).at1 hk
  injection he with he
  injection he with he1 he2
  subst he1 he2
  rw [Nat.zero_add] at hc
  exact ⟨u, hc⟩
def rndCells (x : Rnd × Hd) : List Value := [.slice x.2.1 x.1.1.length x.2.2, .int .i64 x.1.2]
theorem rndCells_len (x : Rnd × Hd) : (rndCells x).length = 2 := rfl
/-- Rounds of the call's own. -/
structure OwnRnds (w : World) (lo : Nat) (A : Option Addr) (n cap : Nat) (rs : List Rnd) (hs : List Hd) : Prop where
  len : hs.length = rs.length
  row : w.ownsRow lo 83 2 (.slice A n cap) n (cellsOf rndCells (rs.zip hs))
  cnts : ∀ (k : Nat) (r : Rnd) (d : Hd), rs[k]? = some r → hs[k]? = some d → w.ownsRow lo 3 1 (.slice d.1 r.1.length d.2) r.1.length (r.1.map (Value.int .i64)) ∧ ((Value.slice d.1 r.1.length d.2).ownBlock = none ∨ (Value.slice d.1 r.1.length d.2).ownBlock ≠ (Value.slice A n cap).ownBlock)
section
variable {w w' : World} {lo n cap k : Nat} {A : Option Addr} {rs : List Rnd} {hs : List Hd}
theorem OwnRnds.xlen (h : OwnRnds w lo A n cap rs hs) : rs.length = n := by
  have := h.row.1
  rw [cellsOf_len rndCells_len, List.length_zip, h.len, Nat.min_self] at this
  omega
theorem OwnRnds.nil (w : World) (lo : Nat) : OwnRnds w lo none 0 0 [] [] := ⟨rfl, own_nil _ _ _ _, fun k r d h => by simp at h⟩
theorem OwnRnds.empty (w : World) (lo : Nat) (hl : lo ≤ w.heap.size) : OwnRnds (w.alloc (.cells #[] 83)) lo (some ⟨w.heap.size, 0, none⟩) 0 0 [] [] := ⟨rfl, own_empty _ _ _ _ hl, fun k r d h => by simp at h⟩
theorem OwnRnds.keep (h : OwnRnds w lo A n cap rs hs) (hg : w.grownBy w' none) : OwnRnds w' lo A n cap rs hs :=
  ⟨h.len, own_below h.row hg, fun k r d hr hd => ⟨own_below (h.cnts k r d hr hd).1 hg, (h.cnts k r d hr hd).2⟩⟩
theorem OwnRnds.keepLow (h : OwnRnds w lo A n cap rs hs) {g0 : Nat} (hg : w.grownBy w' (some g0)) (hl : g0 < lo) : OwnRnds w' lo A n cap rs hs := by
  have hne : ∀ {e size m c : Nat} {B : Option Addr} {us : List Value}, w.ownsRow lo e size (.slice B m c) m us → (Value.slice B m c).ownBlock = none ∨ (Value.slice B m c).ownBlock ≠ some g0 := fun ho => by
    rename_i e size m c B us
    cases eb : (Value.slice B m c).ownBlock with
    | none => exact .inl rfl
    | some b =>
      refine .inr (fun e' => ?_)
      injection e' with e'
      have := (ho.lt b eb).1
      omega
  exact ⟨h.len, h.row.kept hg (hne h.row), fun k r d hr hd => ⟨(h.cnts k r d hr hd).1.kept hg (hne (h.cnts k r d hr hd).1), (h.cnts k r d hr hd).2⟩⟩
theorem OwnRnds.wide {lo' : Nat} (h : OwnRnds w lo A n cap rs hs) (hl : lo' ≤ lo) : OwnRnds w lo' A n cap rs hs :=
  ⟨h.len, own_lo h.row hl, fun k r d hr hd => ⟨own_lo (h.cnts k r d hr hd).1 hl, (h.cnts k r d hr hd).2⟩⟩
theorem snocAt {α : Type} {l : List α} {a x : α} {k : Nat} (h : (l ++ [a])[k]? = some x) : (k < l.length ∧ l[k]? = some x) ∨ (k = l.length ∧ x = a) := by
  by_cases hk : k < l.length
  · rw [List.getElem?_append_left hk] at h
    exact .inl ⟨hk, h⟩
  · rw [List.getElem?_append_right (by omega)] at h
    by_cases h0 : k - l.length = 0
    · rw [h0] at h
      simp at h
      exact .inr ⟨by omega, h.symm⟩
    · obtain ⟨j, hj⟩ : ∃ j, k - l.length = j + 1 := ⟨k - l.length - 1, by omega⟩
      rw [hj] at h
      simp at h
/-- One more round: what an append leaves. -/
theorem OwnRnds.push (h : OwnRnds w lo A n cap rs hs) {A' : Option Addr} {c' : Nat} {r : Rnd} {d : Hd} (hy : w.ownsRow lo 3 1 (.slice d.1 r.1.length d.2) r.1.length (r.1.map (Value.int .i64)))
    (hne : (Value.slice d.1 r.1.length d.2).ownBlock = none ∨ (Value.slice d.1 r.1.length d.2).ownBlock ≠ (Value.slice A n cap).ownBlock)
    (hown : w'.ownsRow lo 83 2 (.slice A' (n + 1) c') (n + 1) (cellsOf rndCells (rs.zip hs) ++ rndCells (r, d))) (hg : w.grownBy w' (Value.slice A n cap).ownBlock)
    (hat : (Value.slice A' (n + 1) c').ownBlock = (Value.slice A n cap).ownBlock ∨ ∃ g, (Value.slice A' (n + 1) c').ownBlock = some g ∧ w.heap.size ≤ g) : OwnRnds w' lo A' (n + 1) c' (rs ++ [r]) (hs ++ [d]) := by
  refine ⟨by simp [h.len], ?_, fun k x e hx he => ?_⟩
  · rw [List.zip_append h.len.symm, cellsOf_append]
    exact hown
  · have hxe : w.ownsRow lo 3 1 (.slice e.1 x.1.length e.2) x.1.length (x.1.map (Value.int .i64)) ∧ ((Value.slice e.1 x.1.length e.2).ownBlock = none ∨ (Value.slice e.1 x.1.length e.2).ownBlock ≠ (Value.slice A n cap).ownBlock) := by
      rcases snocAt hx with ⟨h1, h2⟩ | ⟨h1, h2⟩
      · rcases snocAt he with ⟨h3, h4⟩ | ⟨h3, h4⟩
        · exact h.cnts k x e h2 h4
        · rw [h.len] at h3; omega
      · rcases snocAt he with ⟨h3, h4⟩ | ⟨h3, h4⟩
        · rw [h.len] at h3; omega
        · subst h2 h4
          exact ⟨hy, hne⟩
    refine ⟨hxe.1.kept hg hxe.2, ?_⟩
    cases eb : (Value.slice e.1 x.1.length e.2).ownBlock with
    | none => exact .inl rfl
    | some b =>
      refine .inr (fun e' => ?_)
      have hlt := (hxe.1.lt b eb).2
      rcases hat with e2 | ⟨g, e2, hgl⟩
      · rcases hxe.2 with h1 | h1
        · rw [eb] at h1; cases h1
        · rw [eb] at h1; exact h1 (e'.trans e2)
      · rw [e2] at e'
        injection e' with e'
        omega
theorem OwnRnds.at_ (h : OwnRnds w lo A n cap rs hs) (hk : k < n) : ∃ (b : Nat) (r : Rnd) (d : Hd), A = some ⟨b, 0, none⟩ ∧ Hid (rs[k]? = some r) ∧ Ints w lo d.1 r.1.length d.2 r.1 ∧ w.cell? ⟨b, k * 2, none⟩ = some (.slice d.1 r.1.length d.2) ∧ w.cell? ⟨b, k * 2 + 1, none⟩ = some (.int .i64 r.2) := by
  have hxl := h.xlen
  have hr : rs[k]? = some rs[k] := List.getElem?_eq_getElem (by omega)
  have hd : hs[k]? = some (hs[k]'(by rw [h.len]; omega)) := List.getElem?_eq_getElem (by rw [h.len]; omega)
  have hz : (rs.zip hs)[k]? = some (rs[k], hs[k]'(by rw [h.len]; omega)) := by rw [List.getElem?_zip_eq_some]; exact ⟨hr, hd⟩
  have h0 := cellsOf_at (j := 0) rndCells_len hz (by omega)
  have h1 := cellsOf_at (j := 1) rndCells_len hz (by omega)
  obtain ⟨hl, h2⟩ := h.row
  rcases h2 with ⟨e1, e2⟩ | ⟨g, cap', cur, e1, hg, hh, _⟩
  · omega
  · injection e1 with e1
    refine ⟨g, rs[k], hs[k]'(by rw [h.len]; omega), e1, Lib.hid hr, Sl.own (h.cnts k _ _ hr hd).1, ?_, ?_⟩
    · subst e1
      have := h.row.cellAt (k * 2 + 0) (by omega)
      rw [h0] at this
      exact this
    · subst e1
      have := h.row.cellAt (k * 2 + 1) (by omega)
      rw [h1] at this
      exact this
end
theorem roundInfo : (Tryz.prog.info? 83).map (fun i => (i.zero, i.size, i.bytes)) = some (some (.agg #[.slice none 0 0, .int .i64 0]), 2, 32) := by kernel_rfl
theorem roundE : Elem Tryz.prog 79 83 2 32 (.agg #[.slice none 0 0, .int .i64 0]) := ⟨Tryz.underlying79, info_parts roundInfo, rfl, by omega⟩
theorem fit_bounds {ps : List Pl} {n : Int} (h : fitOK ps n = true) (left : List Bool) : ∀ z ∈ fCounts left ps, 0 ≤ z ∧ z ≤ 1188 := fun z hz => by
  obtain ⟨h1, h2, _⟩ := fit_many h
  have := fCounts_nn (left := left) h1 z hz
  omega
theorem own_ne_low {w : World} {lo e size m c g0 : Nat} {B : Option Addr} {us : List Value} (ho : w.ownsRow lo e size (.slice B m c) m us) (hl : g0 < lo) : (Value.slice B m c).ownBlock = none ∨ (Value.slice B m c).ownBlock ≠ some g0 := by
  cases eb : (Value.slice B m c).ownBlock with
  | none => exact .inl rfl
  | some b =>
    refine .inr (fun e' => ?_)
    injection e' with e'
    have := (ho.lt b eb).1
    omega
theorem own_ne_high {w : World} {lo e size m c : Nat} {B : Option Addr} {us : List Value} {o : Option Nat} (ho : w.ownsRow lo e size (.slice B m c) m us) (hl : ∀ g, o = some g → g < lo) : (Value.slice B m c).ownBlock = none ∨ (Value.slice B m c).ownBlock ≠ o := by
  cases eb : (Value.slice B m c).ownBlock with
  | none => exact .inl rfl
  | some b =>
    refine .inr (fun e' => ?_)
    have := (ho.lt b eb).1
    have := hl b e'.symm
    omega

set_option maxHeartbeats 4000000 in
theorem c_l12Rounds (lo lo' : Nat) (A0 B0 : Option Addr) (np cap N cap' : Nat) (ps : List Pl) (lots : List Int) (w : World) (h : Piles w lo A0 np cap ps) (h' : Ints w lo' B0 N cap' lots) (hs : ∀ p ∈ ps, p.1.size ≤ 2000000) (hfit : fitOK ps N = true) (hp : lots.Perm (iota N)) :
    Calls Tryz.prog 102 #[.slice A0 np cap, .slice B0 N cap'] w fun e w' => ∃ A n c hd, e = .returned (.slice A n c) ∧ w.grownBy w' none ∧ OwnRnds w' w.heap.size A n c (rRounds ps lots) hd := by
  have hlc := h'.le
  have hcm := h'.max
  have hll := Lib.hid h'.len
  have Hs := Lib.hid hs
  have Hp := Lib.hid hp
  have Hfit := Lib.hid hfit
  have hN5 : N ≤ 5 := by have := (fit_many hfit).2.2; omega
  have hN1 : 1 ≤ N := by have := (fit_many hfit).2.2; omega
  have hrange := Lib.hid (show ∀ z ∈ lots, 0 ≤ z ∧ z < (N : Int) from fun z hz => mem_iota.1 (hp.mem_iff.1 hz))
  clear hs hp hfit
  have hga := gb_alloc (gb_refl w none) (.cells #[] 83)
  obtain ⟨w0, hmk, hg0, hown0⟩ := mk_bools N (by omega) (w.alloc (.cells #[] 83))
  have hG0 := gb_trans hga hg0
  have hO0 := (OwnRnds.empty w w.heap.size (Nat.le_refl _)).keep hg0
  have hsz : (w.alloc (.cells #[] 83)).heap.size = w.heap.size + 1 := by simp
  have hL0 := own_lo hown0 hga.size
  rw [hsz] at hL0
  have hap0 : (Value.slice (some ⟨w.heap.size + 1, 0, none⟩) N N).ownBlock = none ∨ (Value.slice (some ⟨w.heap.size + 1, 0, none⟩) N N).ownBlock ≠ (Value.slice (some ⟨w.heap.size, 0, none⟩) 0 0).ownBlock := .inr (by simp [Value.ownBlock])
  clear hsz
  go_enter Tryz.func102, Tryz.ntmps102
  go_wp2
  clear hmk
  go_loopw [5, 6, 7] (fun v l i wr => ∃ (k f : Nat) (A : Option Addr) (cA : Nat) (L : Option Addr) (cL : Nat) (rs : List Rnd) (hs : List Hd) (left : List Bool), k + f = N ∧ i = .int .i64 k ∧ v = .slice A k cA ∧ l = .slice L N cL ∧ OwnRnds wr w.heap.size A k cA rs hs ∧
    wr.ownsRow w.heap.size 4 1 (.slice L N cL) N (left.map Value.bool) ∧ ((Value.slice L N cL).ownBlock = none ∨ (Value.slice L N cL).ownBlock ≠ (Value.slice A k cA).ownBlock) ∧ w.grownBy wr none ∧ Hid (left.count false = f ∧ rRounds ps lots = rs ++ rGo ps lots f left)) (fun _ _ i _ => N - (intOf i).toNat)
  case atStart => exact ⟨0, N, _, _, _, _, [], [], List.replicate N false, by omega, rfl, rfl, rfl, hO0, hL0, hap0, hG0, Lib.hid ⟨by simp, by unfold rRounds; rw [hll.out]; rfl⟩⟩
  case round =>
    obtain ⟨k, f, A, cA, L, cL, rs, hs, left, hkf, rfl, rfl, rfl, hO, hL, hap, hG, hpre⟩ := hrel
    rename World => wr
    clear hO0 hL0 hap0 hG0 hown0 hg0 hga
    cases f with
    | zero =>
      obtain rfl : N = k := by omega
      have hfin : Hid (rRounds ps lots = rs) := Lib.hid (by rw [hpre.out.2, rGo, List.append_nil])
      go_wp2
      go_ret
      exact ⟨A, N, cA, hs, rfl, hG, by rw [hfin.out]; exact hO⟩
    | succ f =>
      have hk' : (k : Int) < (N : Int) := by omega
      have hleft : Bls wr w.heap.size L N cL left := Sl.own hL
      have hyl := Lib.hid hleft.len
      have hcall := c_l11Counts lo w.heap.size A0 L np cap N cL ps left wr (h.keep0 hG) hleft Hs.out Hfit.out
      obtain ⟨cs, hcs⟩ : ∃ cs, fCounts left ps = cs := ⟨_, rfl⟩
      have hcsl := Lib.hid (show cs.length = N by rw [← hcs, fCounts_len, hyl.out])
      have hcsb := Lib.hid (show ∀ z ∈ cs, 0 ≤ z ∧ z ≤ 1188 by rw [← hcs]; exact fit_bounds Hfit.out left)
      rw [hcs] at hcall
      have Hc := Lib.hid hcall
      have Hcs := Lib.hid hcs
      have hl5 : N ≤ 5 := hN5
      clear hcall hcs
      go_wp2_with fail
      refine Hc.out.mono ?_
      rintro e w1 ⟨D, rfl, hg1, hD⟩
      clear Hc
      have hI1 : Ints w1 wr.heap.size D N N cs := Sl.own hD
      have hL1 := own_below hL hg1
      have hleft1 : Bls w1 w.heap.size L N cL left := Sl.own hL1
      have hO1 := hO.keep hg1
      have hG1 := gb_trans hG hg1
      have hwr := hG.size
      obtain ⟨V, hV⟩ : ∃ V, rDone cs left = V := ⟨_, rfl⟩
      have HV := Lib.hid hV
      have hcall := c_l12Done wr.heap.size w.heap.size D L N N N cL cs left w1 hI1 hleft1 hcsb.out hN5
      rw [hV] at hcall
      have Hc := Lib.hid hcall
      clear hcall hV hleft hG
      go_wp2_with fail
      refine Hc.out.mono ?_
      rintro e w2 ⟨rfl, rfl⟩
      clear Hc
      have hDne : (Value.slice D N N).ownBlock = none ∨ (Value.slice D N N).ownBlock ≠ (Value.slice A k cA).ownBlock := own_ne_high hD (fun g e => (hO.row.lt g e).2)
      have hDlo := own_lo hD hwr
      have hrow := hO1.row
      have hsz1 := hG1.size
      cases V with
      | true =>
        have hfin : Hid (rRounds ps lots = rs ++ [(cs, -1)]) := Lib.hid (by rw [hpre.out.2, rGo, Hcs.out, HV.out, if_pos rfl])
        go_wp2_with (at_builtin; refine wpList_app roundE rfl _ _ rfl w.heap.size k _ _ rfl hrow [_, _] rfl rfl (by simp [Value.oneCell']) (by omega) (by omega) hsz1 ?_; intro A' c' w3 hown3 hb3 hg3 hat3)
        go_ret
        have hpu := hO1.push (r := (cs, -1)) (d := (D, N)) (by show World.ownsRow _ _ _ _ (Value.slice D cs.length N) cs.length _; rw [hcsl.out]; exact hDlo) (by show (Value.slice D cs.length N).ownBlock = none ∨ _; rw [hcsl.out]; exact hDne) (by show World.ownsRow _ _ _ _ _ _ (_ ++ [.slice D cs.length N, .int .i64 (-1)]); rw [hcsl.out]; exact hown3) hg3 hat3
        exact ⟨A', k + 1, c', _, rfl, gb_of_below ((gb_below hG1).trans hb3) none, by rw [hfin.out]; exact hpu⟩
      | false =>
        have hcount : 1 ≤ left.count false := by rw [hpre.out.1]; omega
        obtain ⟨o, ho, hoN, hos, hoc⟩ := rOut_count (cs := cs) Hp.out hyl.out hcount
        have hls := sLeast_eq (cs := cs) Hp.out hyl.out hcount
        have hfin : Hid ((left.set o true).count false = f ∧ rRounds ps lots = (rs ++ [(cs, (o : Int))]) ++ rGo ps lots f (left.set o true)) := Lib.hid ⟨by have := hpre.out.1; omega, by
          rw [hpre.out.2, rGo, Hcs.out, HV.out, if_neg (by simp), ho, Int.toNat_natCast, List.append_assoc]
          rfl⟩
        have hcall := c_l12Least wr.heap.size w.heap.size lo' D L B0 N N cL cap' cs left lots w1 hI1 hleft1 (h'.keep0 hG1) hrange.out hcount hcsb.out hN5
        rw [hls, ho] at hcall
        have Hc := Lib.hid hcall
        clear hcall ho hos hoc hls hpre hcount
        go_wp2_with fail
        refine Hc.out.mono ?_
        rintro e w4 ⟨rfl, hg4⟩
        clear Hc
        have hO4 := hO1.keep hg4
        have hrow4 := hO4.row
        have hG4 := gb_trans hG1 hg4
        have hsz4 := hG4.size
        have hL4 := own_below hL1 hg4
        have hD4 := own_below hDlo hg4
        clear hrow hO1 hO hD hI1 hDlo hL hL1 hleft1 hG1 hg1 hg4 hsz1
        have HK := Lib.hid (fun (A' : Option Addr) (c' : Nat) (w3 : World) (hown3 : w3.ownsRow w.heap.size 83 2 (.slice A' (k + 1) c') (k + 1) (cellsOf rndCells (rs.zip hs) ++ [.slice D N N, .int .i64 (o : Int)])) (hg3 : w4.grownBy w3 (Value.slice A k cA).ownBlock) (hat3 : (Value.slice A' (k + 1) c').ownBlock = (Value.slice A k cA).ownBlock ∨ ∃ g, (Value.slice A' (k + 1) c').ownBlock = some g ∧ w4.heap.size ≤ g) =>
          hO4.push (r := (cs, (o : Int))) (d := (D, N)) (by show World.ownsRow _ _ _ _ (Value.slice D cs.length N) cs.length _; rw [hcsl.out]; exact hD4) (by show (Value.slice D cs.length N).ownBlock = none ∨ _; rw [hcsl.out]; exact hDne) (by show World.ownsRow _ _ _ _ _ _ (_ ++ [.slice D cs.length N, .int .i64 (o : Int)]); rw [hcsl.out]; exact hown3) hg3 hat3)
        clear hD4 hDne hO4
        have ho' : (o : Int) < (N : Int) := by omega
        have ho0 : (0 : Int) ≤ (o : Int) := by omega
        go_wp2_with (first
          | (at_builtin; refine wpList_app roundE rfl _ _ rfl w.heap.size k _ _ rfl hrow4 [_, _] rfl rfl (by simp [Value.oneCell']) (by omega) (by omega) hsz4 ?_; intro A' c' w3 hown3 hb3 hg3 hat3; have hpu := HK.out A' c' w3 hown3 hg3 hat3; have hL3 := hL4.kept hg3 hap; have hG3 := gb_of_below ((gb_below hG4).trans hb3) none; have hga3 := gb_alloc (gb_refl w3 none) (.cells #[] 4); have hz3 := hga3.size; have hS3 : Sl w3 w.heap.size 1 L N cL (left.map Value.bool) := Sl.own hL3)
          | (at_builtin; refine wpList_appAll boolE rfl _ _ rfl w3.heap.size w.heap.size 0 N cL _ [] _ L rfl (own_empty _ _ _ _ (Nat.le_refl _)) rfl (Sl.keep0 hS3 hga3) (fun u hu => by obtain ⟨y, _, rfl⟩ := List.mem_map.1 hu; rfl) (by omega) (by omega) hz3 ?_; intro B5 c5 w5 hown5 hb5 hg5 hat5; rw [Nat.zero_add] at hown5 hat5 ⊢; obtain ⟨g5, rfl, hg50, hg51⟩ := own_adr hown5 (by omega); obtain ⟨u5, hc5⟩ := own_cell hown5 hoN; have hf5 := hown5.frozenAt o; obtain ⟨hst5, hgs5⟩ := hown5.stored o (.bool true)))
        have hg35 := gb_of_below ((gb_below hga3).trans hb5) none
        have hO5 := (hpu.keep hg35).keep (gb_refl _ none)
        have hG5 := gb_trans hG3 hg35
        have hO6 : OwnRnds (w5.setCell ⟨g5, o, none⟩ (.bool true)) w.heap.size A' (k + 1) c' (rs ++ [(cs, (o : Int))]) (hs ++ [(D, N)]) := hpu.keep (gb_setCell hg35 (.inr hg50) _)
        have hL6 : (w5.setCell ⟨g5, o, none⟩ (.bool true)).ownsRow w.heap.size 4 1 (.slice (some ⟨g5, 0, none⟩) N c5) N ((left.set o true).map Value.bool) := own_lo (by rw [List.map_set]; exact hst5) (Nat.le_trans hG3.size (Nat.le_refl _))
        have hap6 : (Value.slice (some ⟨g5, 0, none⟩) N c5).ownBlock = none ∨ (Value.slice (some ⟨g5, 0, none⟩) N c5).ownBlock ≠ (Value.slice A' (k + 1) c').ownBlock := own_ne_high hown5 (fun g e => (hpu.row.lt g e).2)
        have hG6 := gb_setCell (p := ⟨g5, o, none⟩) hG5 (.inr (Nat.le_trans hG3.size hg50)) (.bool true)
        clear hO5 hpu hL3 hS3 hst5 hown5 HK
        go_roundw
        case rel => exact ⟨k + 1, f, A', c', _, c5, _, _, left.set o true, by omega, by go_num, rfl, rfl, hO6, hL6, hap6, hG6, hfin⟩
        case measure => simp [intOf]; omega
end Go.Proofs.YtboobimpoddacaaGreatDoor
