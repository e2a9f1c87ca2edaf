/-
  The walk of the law FnExactBatchesChange: the program's BatchesChange returns what the reference's returns, and leaves its arguments.
-/
import Derived.Test.YtbhchlnbhimcpaaChangeI
import Derived.Test.YtbhchlnbhimcpaaBatchKit
import Derived.Test.YtbhchlnbhimcpaaRecArgs
namespace Go.Proofs.Ytbhchlnbhimcpaa.lawFnExactBatchesChange
open Go.RowKit
set_option linter.unusedVariables false

set_option maxHeartbeats 4000000 in
theorem walk (a0 : Option Addr) (len0 cap0 : Nat) (cs : List Bt) (a1 : Option Addr) (len1 cap1 : Nat) (bs : List Bt) (w : World) (h : RecsWf btRec cs ∧ Bats w 0 a0 len0 cap0 cs) (h' : RecsWf btRec bs ∧ Bats w 0 a1 len1 cap1 bs) :
    Calls Try.prog 13 #[.slice a0 len0 cap0, .slice a1 len1 cap1] w fun e w' => e = .returned (.bool true) ∧ Below w.heap.size w w' := by
  obtain ⟨hw, h⟩ := h
  obtain ⟨hw', h'⟩ := h'
  have Hw : Hid (RecsWf0 btRec cs) := Lib.hid (fun x hx p hp => (hw x hx p hp).2)
  have Hw' : Hid (RecsWf0 btRec bs) := Lib.hid (fun x hx p hp => (hw' x hx p hp).2)
  clear hw hw'
  go_enter Try.func13, Try.ntmps13
  go_wp2_with fail
  refine (c_szBatchS 0 a0 len0 cap0 cs 1048576 _ h Hw.out (by omega) (by omega)).mono ?_
  rintro e w1 ⟨r, rfl, hr1, hr, hg1⟩
  by_cases hr0 : r < 0
  · go_wp2
    go_ret
    exact ⟨rfl, gb_below hg1⟩
  obtain ⟨hr2, hr3, hl, ht⟩ := (show 0 ≤ r ∧ r ≤ 1048576 ∧ _ ∧ _ from by rcases hr with hr | hr; exact absurd hr hr0; exact hr)
  have Hl1 : Hid (∀ b ∈ cs, b.2.2.length ≤ 1100000) := Lib.hid (fun b hb => by have h1 : ((b.2.2).length : Int) ≤ 1048576 := (ht b hb).1; omega)
  have Hl2 : Hid (∀ b ∈ cs, b.2.2.length ≤ 2000000) := Lib.hid (fun b hb => by have := Hl1.out b hb; omega)
  have Ht : Hid (∀ b ∈ cs, ∀ p ∈ b.2.2, p.1.size ≤ 2000000) := Lib.hid (fun b hb p hp => by have h1 : (p.1.size : Int) ≤ 1048576 := (ht b hb).2 p hp; omega)
  have hlen0 : len0 ≤ 1048576 := by have := h.len; omega
  clear hr ht hl
  go_wp2_with fail
  refine (c_szBatchS 0 a1 len1 cap1 bs r _ (Recs.keep0 h' hg1) Hw'.out (by omega) (by omega)).mono ?_
  rintro e w2 ⟨r', rfl, hr1', hr', hg2⟩
  have hG2 := gb_trans hg1 hg2
  by_cases hr0' : r' < 0
  · go_wp2
    go_ret
    exact ⟨rfl, gb_below hG2⟩
  obtain ⟨hr2', hr3', hl', ht'⟩ := (show 0 ≤ r' ∧ r' ≤ r ∧ _ ∧ _ from by rcases hr' with hr | hr; exact absurd hr hr0'; exact hr)
  have Hl1' : Hid (∀ b ∈ bs, b.2.2.length ≤ 1100000) := Lib.hid (fun b hb => by have h1 : ((b.2.2).length : Int) ≤ r := (ht' b hb).1; omega)
  have Hl2' : Hid (∀ b ∈ bs, b.2.2.length ≤ 2000000) := Lib.hid (fun b hb => by have := Hl1'.out b hb; omega)
  have Ht' : Hid (∀ b ∈ bs, ∀ p ∈ b.2.2, p.1.size ≤ 2000000) := Lib.hid (fun b hb p hp => by have h1 : (p.1.size : Int) ≤ r := (ht' b hb).2 p hp; omega)
  have hlen1 : len1 ≤ 1048576 := by have := h'.len; omega
  obtain ⟨V, hV⟩ : ∃ V, chgRes cs bs = V := ⟨_, rfl⟩
  have HV := Lib.hid hV
  obtain ⟨O, hO⟩ : ∃ O, chgOK cs bs = O := ⟨_, rfl⟩
  have HO := Lib.hid hO
  clear hr' ht' hl' hV hO
  have hVV : (V != V) = false := by simp
  have hOO : (O != O) = false := by simp
  have hdB : decide (bs = bs) = true := by simp
  have hdC : decide (cs = cs) = true := by simp
  go_wp2_with fail
  refine (c_toBatchS 0 a0 len0 cap0 cs _ (Recs.keep0 h hG2) (by omega) Hl2.out).mono ?_
  rintro e w3 ⟨rfl, hg3, hs3, ho3⟩
  have hG3 := gb_trans hG2 hg3
  go_wp2_with fail
  refine (c_toBatchS 0 a1 len1 cap1 bs _ (Recs.keep0 h' hG3) (by omega) Hl2'.out).mono ?_
  rintro e w4 ⟨rfl, hg4, hs4, ho4⟩
  have hG4 := gb_trans hG3 hg4
  go_wp2_with fail
  refine (c_spec_BatchesChange _ _ _ _ _ _ _ _ cs bs _ (ho3.keep hg4).recs ho4.recs (Nat.le_trans hg3.size hg4.size) hg4.size (by omega) (by omega) Hl1.out Hl1'.out Ht.out Ht'.out).mono ?_
  rintro e w5 ⟨rfl, hg5⟩
  rw [HV.out, HO.out]
  have hG5 := gb_trans hG4 hg5
  clear ho3 ho4
  go_wp2_with fail
  refine (c_toBatchS 0 a0 len0 cap0 cs _ (Recs.keep0 h hG5) (by omega) Hl2.out).mono ?_
  rintro e w6 ⟨rfl, hg6, hs6, ho6⟩
  have hG6 := gb_trans hG5 hg6
  go_wp2_with fail
  refine (c_toBatchS 0 a1 len1 cap1 bs _ (Recs.keep0 h' hG6) (by omega) Hl2'.out).mono ?_
  rintro e w7 ⟨rfl, hg7, hs7, ho7⟩
  have hG7 := gb_trans hG6 hg7
  have ho6' := ho6.keep hg7
  go_wp2_with fail
  refine (c_impl_BatchesChange _ _ _ _ _ _ _ _ cs bs _ ho6'.recs ho7.recs (Nat.le_trans hg6.size hg7.size) hg7.size (by omega) (by omega) Ht.out Ht'.out).mono ?_
  rintro e w8 ⟨rfl, hg8⟩
  rw [HV.out, HO.out]
  have hG8 := gb_trans hG7 hg8
  go_wp2_with fail
  refine (c_toBatchS 0 a0 len0 cap0 cs _ (Recs.keep0 h hG8) (by omega) Hl2.out).mono ?_
  rintro e w9 ⟨rfl, hg9, hs9, ho9⟩
  have hG9 := gb_trans hG8 hg9
  have ho6'' := ho6'.keep (gb_trans hg8 hg9)
  go_wp2_with fail
  refine (c_eqBatchS _ _ _ _ _ _ _ _ cs cs _ ho6''.recs ho9.recs).mono ?_
  rintro e w10 ⟨rfl, hg10⟩
  have hG10 := gb_trans hG9 hg10
  go_wp2_with fail
  refine (c_toBatchS 0 a1 len1 cap1 bs _ (Recs.keep0 h' hG10) (by omega) Hl2'.out).mono ?_
  rintro e w11 ⟨rfl, hg11, hs11, ho11⟩
  have hG11 := gb_trans hG10 hg11
  have ho7' := ho7.keep (gb_trans hg8 (gb_trans hg9 (gb_trans hg10 hg11)))
  go_wp2_with fail
  refine (c_eqBatchS _ _ _ _ _ _ _ _ bs bs _ ho7'.recs ho11.recs).mono ?_
  rintro e w12 ⟨rfl, hg12⟩
  go_wp2
  go_ret
  exact ⟨rfl, gb_below (gb_trans hG11 hg12)⟩
end Go.Proofs.Ytbhchlnbhimcpaa.lawFnExactBatchesChange
