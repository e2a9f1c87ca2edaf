/-
  The walk of the law FnExactContestText: the program's ContestText returns what the reference's returns, and leaves its argument.
-/
import Derived.Test.YtipnalfkpalieaaDoorDoorB
import Derived.Test.YtipnalfkpalieaaDoorPileKit
import Derived.Test.YtipnalfkpalieaaDoorRecArgs
namespace Go.Proofs.YtipnalfkpalieaaDoor.lawFnExactContestText
open Go.RowKit
set_option linter.unusedVariables false

set_option maxHeartbeats 4000000 in
theorem walk (a0 : Option Addr) (len0 cap0 : Nat) (ps : List Pl) (n m s : Int) (w : World) (hT : Tab w) (h : PlsWf ps ∧ Piles w 0 a0 len0 cap0 ps) (wn : (Lit.int .i64 n).wf = true) (wm : (Lit.int .i64 m).wf = true) (ws : (Lit.int .i64 s).wf = true) :
    Calls Tryd.prog 3 #[.slice a0 len0 cap0, .int .i64 n, .int .i64 m, .int .i64 s] w fun e w' => e = .returned (.bool true) ∧ Below w.heap.size w w' := by
  obtain ⟨hw, h⟩ := h
  have HT := Lib.hid hT
  have Hw : Hid (∀ p ∈ ps, p.1.size ≤ maxLen) := Lib.hid (fun p hp => (hw p hp).2)
  clear hw wn wm ws hT
  go_enter Tryd.func3, Tryd.ntmps3
  go_wp2_with fail
  refine (c_szPileS 0 a0 len0 cap0 ps 1048576 _ h Hw.out (by omega) (by omega)).mono ?_
  rintro e w1 ⟨r, rfl, hr1, hr, hg1⟩
  by_cases hr0 : r < 0
  · go_wp2
    go_ret
    exact ⟨rfl, gb_below hg1⟩
  obtain ⟨hr2, hr3, hl, ht⟩ := (show 0 ≤ r ∧ r ≤ 1048576 ∧ _ ∧ _ from by rcases hr with hr | hr; exact absurd hr hr0; exact hr)
  have Ht : Hid (∀ p ∈ ps, p.1.size ≤ 2000000) := Lib.hid (fun p hp => by have h1 : (p.1.size : Int) ≤ 1048576 := ht p hp; omega)
  have hlen : len0 ≤ 2000000 := by have := h.len; omega
  obtain ⟨V, hV⟩ : ∃ V, conText ps n m s = V := ⟨_, rfl⟩
  have HV := Lib.hid hV
  clear hr ht hl hV
  have hdd : decide (ps = ps) = true := by simp
  go_wp2_with fail
  refine (c_toPileS 0 a0 len0 cap0 ps _ (h.keep0 hg1) hlen).mono ?_
  rintro e w2 ⟨rfl, hg2, ho2⟩
  have hG2 := gb_trans hg1 hg2
  have hP2 : Piles w2 _ _ len0 len0 ps := Sl.own ho2
  clear ho2
  go_wp2_with fail
  refine (c_spec_ContestText _ _ len0 len0 ps n m s _ hP2 Ht.out).mono ?_
  rintro e w3 ⟨rfl, hg3⟩
  rw [HV.out]
  have hG3 := gb_trans hG2 hg3
  clear hP2
  go_wp2_with fail
  refine (c_toPileS 0 a0 len0 cap0 ps _ (h.keep0 hG3) hlen).mono ?_
  rintro e w4 ⟨rfl, hg4, ho4⟩
  have hG4 := gb_trans hG3 hg4
  have hP4 : Piles w4 _ _ len0 len0 ps := Sl.own ho4
  clear ho4
  go_wp2_with fail
  refine (c_impl_ContestText _ _ len0 len0 ps n m s _ hP4 Ht.out (HT.out.grown hG4)).mono ?_
  rintro e w5 ⟨rfl, hg5⟩
  rw [HV.out]
  have hG5 := gb_trans hG4 hg5
  go_wp2_with fail
  refine (c_toPileS 0 a0 len0 cap0 ps _ (h.keep0 hG5) hlen).mono ?_
  rintro e w6 ⟨rfl, hg6, ho6⟩
  have hG6 := gb_trans hG5 hg6
  have hP6 : Piles w6 _ _ len0 len0 ps := Sl.own ho6
  clear ho6
  go_wp2_with fail
  refine (c_eqPileS _ _ _ _ len0 len0 len0 len0 ps ps _ (Piles.keep0 (Piles.keep0 hP4 hg5) hg6) hP6).mono ?_
  rintro e w7 ⟨rfl, hg7⟩
  go_wp2
  go_ret
  exact ⟨rfl, gb_below (gb_trans hG6 hg7)⟩
end Go.Proofs.YtipnalfkpalieaaDoor.lawFnExactContestText
