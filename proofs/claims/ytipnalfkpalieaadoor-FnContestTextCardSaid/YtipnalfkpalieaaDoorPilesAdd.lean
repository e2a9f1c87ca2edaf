/-
  PilesAdd of the reference.
-/
import Derived.Test.YtipnalfkpalieaaDoorPut
import Derived.Test.YtipnalfkpalieaaDoorPiles
namespace Go.Proofs.YtipnalfkpalieaaDoor
open Go.RowKit
set_option linter.unusedVariables false

def addOK (ps : List Pl) (t : ByteArray) (m : Int) : Bool := pilesOK ps && plOK (t, m) && pilesOK (put ps t m)
def addRes (ps : List Pl) (t : ByteArray) (m : Int) : List Pl := if addOK ps t m then put ps t m else []
/-- A fresh slice of piles, and a truth. -/
def PilesOkRes (ps : List Pl) (ok : Bool) (w : World) (e : Ending) (w' : World) : Prop :=
  ∃ B c, e = .returned (.tuple #[.slice B ps.length c, .bool ok]) ∧ w.grownBy w' none ∧ w'.ownsRow w.heap.size 48 2 (.slice B ps.length c) ps.length (cellsOf plCells ps)
theorem put_sizes {ps : List Pl} {t : ByteArray} {m : Int} {M : Nat} (h : ∀ p ∈ ps, p.1.size ≤ M) (ht : t.size ≤ M) : ∀ p ∈ put ps t m, p.1.size ≤ M := by
  intro p hp
  have : p.1 ∈ (put ps t m).map (·.1) := List.mem_map.2 ⟨p, hp, rfl⟩
  rw [put_texts] at this
  rcases this with h1 | h1
  · rw [h1]; exact ht
  · obtain ⟨q, hq, h2⟩ := List.mem_map.1 h1
    rw [← h2]; exact h q hq

set_option maxHeartbeats 1000000 in
theorem c_spec_PilesAdd (lo : Nat) (A : Option Addr) (n cap : Nat) (ps : List Pl) (t : ByteArray) (m : Int) (w : World) (h : Piles w lo A n cap ps) (hn : n ≤ 1999999) (hs : ∀ p ∈ ps, p.1.size ≤ 2000000) (ht : t.size ≤ 2000000) :
    Calls Tryd.prog 92 #[.slice A n cap, .string t, .int .i64 m] w (PilesOkRes (addRes ps t m) (addOK ps t m) w) := by
  have Hs := Lib.hid hs
  have Hps := Lib.hid (put_sizes (m := m) hs ht)
  have Hxl := Lib.hid h.len
  clear hs
  obtain ⟨V1, hV1⟩ : ∃ V, pilesOK ps = V := ⟨_, rfl⟩
  obtain ⟨V2, hV2⟩ : ∃ V, plOK (t, m) = V := ⟨_, rfl⟩
  obtain ⟨V3, hV3⟩ : ∃ V, pilesOK (put ps t m) = V := ⟨_, rfl⟩
  have H1 := Lib.hid hV1
  have H2 := Lib.hid hV2
  have H3 := Lib.hid hV3
  clear hV1 hV2 hV3
  have hbad : ∀ B c w', V1 = false ∨ V2 = false ∨ V3 = false → w.grownBy w' none → w'.ownsRow w.heap.size 48 2 (.slice B 0 c) 0 [] → PilesOkRes (addRes ps t m) (addOK ps t m) w (.returned (.tuple #[.slice B 0 c, .bool false])) w' := by
    intro B c w' hv hg ho
    have h0 : addOK ps t m = false := by
      unfold addOK
      rw [H1.out, H2.out, H3.out]
      rcases hv with rfl | rfl | rfl <;> simp
    have h1 : addRes ps t m = [] := by unfold addRes; rw [h0]; rfl
    exact ⟨B, c, by rw [h0, h1]; rfl, hg, by rw [h1]; exact ho⟩
  have Hbad := Lib.hid hbad
  clear hbad
  go_enter Tryd.func92, Tryd.ntmps92
  go_wp2_with fail
  refine (c_spec_PilesValid lo A n cap ps _ h Hs.out).mono ?_
  rintro e w1 ⟨rfl, hg1⟩
  rw [H1.out]
  cases V1 with
  | false =>
    go_wp2
    go_ret2
    exact Hbad.out _ _ _ (.inl trivial) (gb_alloc hg1 _) (own_empty _ _ _ _ hg1.size)
  | true =>
    go_wp2_with fail
    refine (c_l3Pile t m _ ht).mono ?_
    rintro e w2 ⟨rfl, hg2⟩
    rw [H2.out]
    have hG2 := gb_trans hg1 hg2
    cases V2 with
    | false =>
      go_wp2
      go_ret2
      exact Hbad.out _ _ _ (.inr (.inl trivial)) (gb_alloc hG2 _) (own_empty _ _ _ _ hG2.size)
    | true =>
      go_wp2_with fail
      refine (c_l3Put lo A n cap ps t m _ (h.keep0 hG2) (by omega)).mono ?_
      rintro e w3 ⟨B, c, rfl, hg3, ho3⟩
      have hG3 := gb_trans hG2 hg3
      have hpl : Hid ((put ps t m).length ≤ 2000000) := Lib.hid (by have h1 := put_length ps t m; have := Hxl.out; omega)
      have hcall := c_spec_PilesValid _ B (put ps t m).length c (put ps t m) w3 (Sl.own ho3) Hps.out
      have Hc := Lib.hid hcall
      obtain ⟨N, hN⟩ : ∃ N, (put ps t m).length = N := ⟨_, rfl⟩
      have HN := Lib.hid hN
      rw [hN] at Hc ho3
      rw [hN]
      clear hN hcall
      go_wp2_with fail
      refine Hc.out.mono ?_
      rintro e w4 ⟨rfl, hg4⟩
      rw [H3.out]
      have hG4 := gb_trans hG3 hg4
      clear Hc
      cases V3 with
      | false =>
        go_wp2
        go_ret2
        exact Hbad.out _ _ _ (.inr (.inr trivial)) (gb_alloc hG4 _) (own_empty _ _ _ _ hG4.size)
      | true =>
        have hok : Hid (addOK ps t m = true) := Lib.hid (by unfold addOK; rw [H1.out, H2.out, H3.out]; rfl)
        have hres : Hid (addRes ps t m = put ps t m) := Lib.hid (by unfold addRes; rw [hok.out]; rfl)
        have ho4 := own_lo (own_below ho3 hg4) hG2.size
        go_wp2
        go_ret2
        exact ⟨B, c, by rw [hok.out, hres.out, HN.out]; rfl, hG4, by rw [hres.out, HN.out]; exact ho4⟩
end Go.Proofs.YtipnalfkpalieaaDoor
