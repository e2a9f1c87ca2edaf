/-
  The walk of the law FnTreeProofLeaf: a ballot with another sum is not accepted.
-/
import Derived.Test.YtocdgmmmegcnoaaClimb
import Derived.Test.YtocdgmmmegcnoaaDrawTree
import Derived.Test.YtocdgmmmegcnoaaKnown
import Derived.Test.YtocdgmmmegcnoaaTo
namespace Go.Proofs.Ytocdgmmmegcnoaa.lawFnTreeProofLeaf
open Go.RowKit
set_option linter.unusedVariables false

def texts : List ByteArray := [⟨#[]⟩, ⟨#[97]⟩, ⟨#[98]⟩, ⟨#[97, 98]⟩, ⟨#[98, 97]⟩, ⟨#[99]⟩, ⟨#[97, 98, 99]⟩]
theorem texts_size : ∀ t ∈ texts, t.size ≤ 2000000 := by
  intro t ht
  simp [texts] at ht
  rcases ht with rfl | rfl | rfl | rfl | rfl | rfl | rfl <;> decide

attribute [local go_sem] flowAct flowOp_def flowUpon
set_option maxHeartbeats 2000000 in
theorem walk (a0 : Option Addr) (len0 cap0 : Nat) (w : World) (c0 : CodeArg w a0 len0 cap0) :
    Calls Try.prog 14 #[.slice a0 len0 cap0] w fun e w' => e = .returned (.bool true) ∧ Below w.heap.size w w' := by
  by_cases h0 : 1048576 < len0
  · go_enter Try.func14, Try.ntmps14
    go_wp2
    go_ret
    exact ⟨rfl, Below.refl _ _⟩
  go_enter Try.func14, Try.ntmps14
  go_wp2_with fail
  refine (c_DrawTreeProof _ _ _ _ c0).mono ?_
  rintro e w1 ⟨A, q, c, ss, place, rfl, hp0, hp1, ho1, hss, hq, hg1⟩
  have hsl := Lib.hid (str_own_len ho1)
  have Hss : Hid (∀ s ∈ ss, s.size ≤ 2000000) := Lib.hid (fun s hs => by have := hss s hs; omega)
  obtain ⟨P, hP⟩ : ∃ P, proofOK ss place = P := ⟨_, rfl⟩
  obtain ⟨zs, hzs⟩ : ∃ zs, treeProof ss place = zs := ⟨_, rfl⟩
  have hzl : Hid (zs.length ≤ 3) := Lib.hid (by rw [← hzs]; exact treeProof_short _ _)
  have HP := Lib.hid hP
  have HZ := Lib.hid hzs
  have hdz : decide (zs = zs) = true := by simp
  have hPP : (P != P) = false := by simp
  clear hss c0 hP hzs
  go_wp2_with fail
  refine (c_impl_TreeProof _ _ _ _ ss place _ (Sl.own ho1) Hss.out).mono ?_
  rintro e w2 ⟨A2, m2, c2, rfl, hg2, ho2⟩
  rw [HP.out]
  rw [HZ.out] at ho2
  have hG2 := gb_trans hg1 hg2
  go_wp2_with fail
  refine (c_spec_TreeProof _ _ _ _ ss place _ (Sl.keep0 (Sl.own ho1) hg2) Hss.out).mono ?_
  rintro e w3 ⟨A3, m3, c3, rfl, hg3, ho3⟩
  rw [HP.out]
  rw [HZ.out] at ho3
  have hG3 := gb_trans hG2 hg3
  have ho2_3 := own_below ho2 hg3
  have hI3 : Strs w3 w.heap.size A q c ss := Sl.keep0 (Sl.own ho1) (gb_trans hg2 hg3)
  have hO3 := Sl.own ho2_3
  go_wp2_with fail
  refine (c_sameInts _ _ _ _ _ _ _ _ zs zs _ hO3 (Sl.own ho3)).mono ?_
  rintro e w4 ⟨rfl, d4, rfl⟩
  cases P with
  | false =>
    go_wp2_with fail
    refine (c_sameInts _ _ _ _ _ _ _ _ zs zs _ (Sl.drewN hO3 d4) (Sl.drewN (Sl.own ho3) d4)).mono ?_
    rintro e w5 ⟨rfl, d5, rfl⟩
    go_wp2
    go_ret
    exact ⟨rfl, gb_below (gb_drewN hG3 (d4 + d5))⟩
  | true =>
    obtain ⟨p, s, rfl, hpl, hsp, hok, hl1, hl8, htp⟩ := proof_at HP.out
    rw [HZ.out] at htp
    rw [hsl.out] at hpl hl1 hl8
    have Hsp := Lib.hid hsp
    have Hok := Lib.hid hok
    have Htp := Lib.hid htp
    have hsz := Hss.out s (List.mem_of_getElem? hsp)
    have hm2 : m2 ≤ 3 := by have := own_len ho2; have := hzl.out; omega
    have hzm := Lib.hid (own_len ho2)
    clear hsp hok htp hp0 hp1
    obtain ⟨g, rfl, hg0, hg1'⟩ := own_addr ho1 (by omega)
    have mp : w3.cell? ⟨g, p, none⟩ = some (.string s) := by
      obtain ⟨b, off, he, _, _, hc⟩ := hI3.2.2.2 (by omega)
      injection he with he; injection he with e1 e2; subst e1 e2
      have := hc p (.string s) (by rw [List.getElem?_map, Hsp.out]; rfl)
      rwa [Nat.zero_add] at this
    have hpi : (p : Int) < (q : Int) := by omega
    have hlc := hI3.le
    have hcm := hI3.max
    have hlcO := hO3.le
    have hcmO := hO3.max
    have hG4 := gb_drewN (gb_refl w3 none) d4
    obtain ⟨T, hT⟩ : ∃ T, treeRoot ss = T := ⟨_, rfl⟩
    have HT := Lib.hid hT
    clear hT
    have hBk := Blk.new (w3.drewN d4) 9 (texts.map Value.string).toArray
    go_wp2_with fail
    refine (c_impl_TreeRoot _ _ _ _ ss _ (Sl.keep0 hI3 (gb_alloc hG4 _)) Hss.out).mono ?_
    rintro e w5 ⟨rfl, hg5⟩
    rw [HT.out]
    have hG5 := gb_trans (gb_alloc hG4 (.cells (texts.map Value.string).toArray 9)) hg5
    have hTX : Strs w5 w3.heap.size (some ⟨w3.heap.size, 0, none⟩) 7 7 texts := by
      have hb5 : Blk w5 w3.heap.size 9 (texts.map Value.string).toArray := hBk.grown hg5 (by simp)
      have := Sl.own (own_of_blk (lo := w3.heap.size) (size := 1) (n := 7) hb5 rfl (by omega) (Nat.le_refl _))
      exact this
    have hI5 := Sl.keep0 hI3 hG5
    have hO5 := Sl.keep0 hO3 hG5
    have mp5 := gb_cell hG5 mp (by simp)
    have hgw5 := gb_trans hG3 hG5
    clear hBk hG5 hI3 hO3 mp
    go_wp2
    go_loopw [11] (fun i wr => ∃ k : Nat, k ≤ 7 ∧ i = .int .i64 (k : Int) ∧ w5.grownBy wr none) (fun i _ => 7 - (intOf i).toNat)
    case atStart => exact ⟨0, Nat.zero_le _, rfl, gb_refl _ _⟩
    case round =>
      obtain ⟨k, hk, rfl, hGr⟩ := hrel
      by_cases hlt : k < 7
      · obtain ⟨b, off, t, he, ht, mt⟩ := Strs.at_ (Sl.keep0 hTX hGr) hlt
        injection he with he; injection he with e1 e2; subst e1 e2
        rw [Nat.zero_add] at mt
        have hts := texts_size t (List.mem_of_getElem? ht.out)
        have hk7 : (k : Int) < 7 := by omega
        have hck : Hid (treeCheck T (q : Int) (p : Int) t zs = (leafSum (p : Int) t == leafSum (p : Int) s)) := Lib.hid (by
          rw [← HT.out, Htp.out, ← hsl.out]
          exact check_other Hok.out Hsp.out (by rw [hsl.out]; exact hl1) (by rw [hsl.out]; exact hl8) t)
        go_wp2_with fail
        refine (c_impl_TreeCheck _ _ _ _ _ _ _ _ zs _ hts (by omega) (Sl.keep0 hO5 hGr)).mono ?_
        rintro e w6 ⟨rfl, hg6⟩
        rw [hck.out]
        have hG6 := gb_trans hGr hg6
        have mp := gb_cell hG6 mp5 (by simp)
        have mt6 := gb_cell hg6 mt (by simp)
        have hI3 := Sl.keep0 hI5 hG6
        have hO3 := Sl.keep0 hO5 hG6
        obtain ⟨X, hX⟩ : ∃ X, leafSum (p : Int) t = X := ⟨_, rfl⟩
        obtain ⟨Y, hY⟩ : ∃ Y, leafSum (p : Int) s = Y := ⟨_, rfl⟩
        rw [hX, hY]
        have HX := Lib.hid hX
        have HY := Lib.hid hY
        obtain ⟨B, hB⟩ : ∃ B, (X == Y) = B := ⟨_, rfl⟩
        rw [hB]
        have hBB : (B != B) = false := by simp
        clear hX hY
        go_wp2_with fail
        refine wp_known w6 [.bool B, .int .i64 p, .slice (some ⟨w3.heap.size, 0, none⟩) 7 7, .int .i64 k, .pointer (some ⟨w3.heap.size, k, none⟩), .string t, .int .i64 X, .int .i64 p, .slice (some ⟨g, 0, none⟩) q c, .int .i64 p, .pointer (some ⟨g, p, none⟩), .string s, .int .i64 Y, .bool B, .bool false] (gb_refl _ _) (by kernel_rfl) (by kernel_rfl) ?_ ?_
        · refine ⟨?_, ?_, ?_, ?_, ?_, ?_, ?_, ?_, ?_, ?_, ?_, ?_, ?_, ?_, ?_, trivial⟩
          all_goals
            intro n u x hn hC hp
            simp [flowPreds, Region.binds, fKnown] at hp
            have mp' := gb_cell hC mp (by simp)
            have hIx := Sl.keep0 hI3 hC
            have hOx := Sl.keep0 hO3 hC
            have mt' := gb_cell hC mt6 (by simp)
            go_simp
          all_goals try exact ⟨gb_refl _ _, rfl⟩
          · refine (c_impl_LeafSum (p : Int) t _ hts).mono ?_
            rintro e y ⟨rfl, hg⟩
            exact ⟨_, rfl, hg, by rw [HX.out]; rfl⟩
          · refine (c_impl_LeafSum (p : Int) s _ hsz).mono ?_
            rintro e y ⟨rfl, hg⟩
            exact ⟨_, rfl, hg, by rw [HY.out]; rfl⟩
        · intro u x hC hp
          have e1 : u 14 = .bool false := hp 14 (by decide)
          go_simp
          go_wp2
          go_roundw
          case rel => exact ⟨k + 1, by omega, by go_num, gb_trans hG6 hC⟩
          case measure => simp [intOf]; omega
      · obtain rfl : k = 7 := by omega
        go_wp2
        go_ret
        exact ⟨rfl, gb_below (gb_trans hgw5 hGr)⟩
end Go.Proofs.Ytocdgmmmegcnoaa.lawFnTreeProofLeaf
