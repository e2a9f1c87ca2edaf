/-
  The walk of the law FnExactBatchesValid: the program's BatchesValid returns what the reference's returns.
-/
import Derived.Test.YtbhchlnbhimcpaaBatches
import Derived.Test.YtbhchlnbhimcpaaBatchKit
import Derived.Test.YtbhchlnbhimcpaaRecArgs
namespace Go.Proofs.Ytbhchlnbhimcpaa.lawFnExactBatchesValid
open Go.RowKit
set_option linter.unusedVariables false

set_option maxHeartbeats 2000000 in
theorem walk (a0 : Option Addr) (len0 cap0 : Nat) (bs : List Bt) (w : World) (h : RecsWf btRec bs ∧ Bats w 0 a0 len0 cap0 bs) :
    Calls Try.prog 3 #[.slice a0 len0 cap0] w fun e w' => e = .returned (.bool true) ∧ Below w.heap.size w w' := by
  obtain ⟨hw, h⟩ := h
  have Hw : Hid (RecsWf0 btRec bs) := Lib.hid (fun x hx p hp => (hw x hx p hp).2)
  clear hw
  go_enter Try.func3, Try.ntmps3
  go_wp2_with fail
  refine (c_szBatchS 0 a0 len0 cap0 bs 1048576 _ h Hw.out (by omega) (by omega)).mono ?_
  rintro e w1 ⟨r, rfl, hr1, hr, hg1⟩
  by_cases hr0 : r < 0
  · go_wp2
    go_ret
    exact ⟨rfl, gb_below hg1⟩
  obtain ⟨hr2, hr3, hl, ht⟩ := (show 0 ≤ r ∧ r ≤ 1048576 ∧ _ ∧ _ from by rcases hr with hr | hr; exact absurd hr hr0; exact hr)
  have Hl : Hid (∀ b ∈ bs, b.2.2.length ≤ 2000000) := Lib.hid (fun b hb => by have h1 : ((b.2.2).length : Int) ≤ 1048576 := (ht b hb).1; omega)
  have Ht : Hid (∀ b ∈ bs, ∀ p ∈ b.2.2, p.1.size ≤ 2000000) := Lib.hid (fun b hb p hp => by have h1 : (p.1.size : Int) ≤ 1048576 := (ht b hb).2 p hp; omega)
  have hlen : len0 ≤ 1500000 := by have := h.len; omega
  obtain ⟨V, hV⟩ : ∃ V, batchesOK bs = V := ⟨_, rfl⟩
  have HV := Lib.hid hV
  clear hr ht hl hV
  have hVV : (V != V) = false := by simp
  go_wp2_with fail
  refine (c_toBatchS 0 a0 len0 cap0 bs _ (Recs.keep0 h hg1) hlen Hl.out).mono ?_
  rintro e w2 ⟨rfl, hg2, hs2, ho2⟩
  have hG2 := gb_trans hg1 hg2
  go_wp2_with fail
  refine (c_spec_BatchesValid _ _ _ _ bs _ ho2.recs Ht.out).mono ?_
  rintro e w3 ⟨rfl, hg3⟩
  rw [HV.out]
  have hG3 := gb_trans hG2 hg3
  clear ho2
  go_wp2_with fail
  refine (c_toBatchS 0 a0 len0 cap0 bs _ (Recs.keep0 h hG3) hlen Hl.out).mono ?_
  rintro e w4 ⟨rfl, hg4, hs4, ho4⟩
  have hG4 := gb_trans hG3 hg4
  go_wp2_with fail
  refine (c_impl_BatchesValid _ _ _ _ bs _ ho4.recs Ht.out).mono ?_
  rintro e w5 ⟨rfl, hg5⟩
  rw [HV.out]
  have hG5 := gb_trans hG4 hg5
  go_wp2_with fail
  refine (c_toBatchS 0 a0 len0 cap0 bs _ (Recs.keep0 h hG5) hlen Hl.out).mono ?_
  rintro e w6 ⟨rfl, hg6, hs6, ho6⟩
  have hG6 := gb_trans hG5 hg6
  have hdd : decide (bs = bs) = true := by simp
  go_wp2_with fail
  refine (c_eqBatchS _ _ _ _ _ _ _ _ bs bs _ (Recs.keep0 ho4.recs (gb_trans hg5 hg6)) ho6.recs).mono ?_
  rintro e w7 ⟨rfl, hg7⟩
  go_wp2
  go_ret
  exact ⟨rfl, gb_below (gb_trans hG6 hg7)⟩
end Go.Proofs.Ytbhchlnbhimcpaa.lawFnExactBatchesValid
