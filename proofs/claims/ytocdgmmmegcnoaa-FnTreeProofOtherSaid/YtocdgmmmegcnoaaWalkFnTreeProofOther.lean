/-
  The walk of the law FnTreeProofOther: another root, a longer proof and a shorter one are not accepted.
-/
import Derived.Test.YtocdgmmmegcnoaaClimb
import Derived.Test.YtocdgmmmegcnoaaDrawTree
import Derived.Test.YtocdgmmmegcnoaaKnown
import Derived.Test.YtocdgmmmegcnoaaAppend2
import Derived.Test.YtocdgmmmegcnoaaTo
namespace Go.Proofs.Ytocdgmmmegcnoaa.lawFnTreeProofOther
open Go.RowKit
set_option linter.unusedVariables false

def Fact24 (B m : Nat) (zs : List Int) (v : Value) (x : World) : Prop := ∃ c, (m = 0 → c = 0) ∧ RowB x B v m c zs
def otherFacts (B m : Nat) (zs : List Int) (vals : List Value) : Nat → Value → World → Prop
  | 22 => fun v x => RowB x B v 0 0 []
  | 24 => fun v x => Fact24 B m zs v x
  | 25 => fun v x => RowB x B v 1 1 [1]
  | 26 => fun v x => ∃ c, RowB x B v (m + 1) c (zs ++ [1])
  | i => fun v _ => v = vals.getD i undef
theorem otherFacts_kept {B m M : Nat} {zs : List Int} {vals : List Value} (hz : zs.length = m) (h1 : 1 ≤ M) (hm : m ≤ M) (x y : World) (h : KP B M m x y) : ∀ i v, otherFacts B m zs vals i v x → otherFacts B m zs vals i v y := by
  intro i v hv
  unfold otherFacts at *
  split at hv
  · exact hv.keep h (by omega)
  · obtain ⟨c, h2, h3⟩ := hv
    exact ⟨c, h2, h3.keep h hm⟩
  · exact hv.keep h h1
  · obtain ⟨c, h3⟩ := hv
    exact ⟨c, h3.keep1 hz h hm⟩
  · exact hv

attribute [local go_sem] flowAct flowOp_def flowUpon
set_option maxRecDepth 100000 in
set_option maxHeartbeats 8000000 in
theorem walk (a0 : Option Addr) (len0 cap0 : Nat) (w : World) (c0 : CodeArg w a0 len0 cap0) :
    Calls Try.prog 15 #[.slice a0 len0 cap0] w fun e w' => e = .returned (.bool true) ∧ Below w.heap.size w w' := by
  by_cases h0 : 1048576 < len0
  · go_enter Try.func15, Try.ntmps15
    go_wp2
    go_ret
    exact ⟨rfl, Below.refl _ _⟩
  go_enter Try.func15, Try.ntmps15
  go_wp2_with fail
  refine (c_DrawTreeProof _ _ _ _ c0).mono ?_
  rintro e w1 ⟨A, q, c, ss, place, rfl, hp0, hp1, ho1, hss, hq, hg1⟩
  have hsl := Lib.hid (str_own_len ho1)
  have Hss : Hid (∀ s ∈ ss, s.size ≤ 2000000) := Lib.hid (fun s hs => by have := hss s hs; omega)
  obtain ⟨P, hP⟩ : ∃ P, proofOK ss place = P := ⟨_, rfl⟩
  obtain ⟨zs, hzs⟩ : ∃ zs, treeProof ss place = zs := ⟨_, rfl⟩
  have hzl : Hid (zs.length ≤ 3) := Lib.hid (by rw [← hzs]; exact treeProof_short _ _)
  have HP := Lib.hid hP
  have HZ := Lib.hid hzs
  have hdz : decide (zs = zs) = true := by simp
  have hPP : (P != P) = false := by simp
  clear hss c0 hP hzs
  go_wp2_with fail
  refine (c_impl_TreeProof _ _ _ _ ss place _ (Sl.own ho1) Hss.out).mono ?_
  rintro e w2 ⟨A2, m2, c2, rfl, hg2, ho2⟩
  rw [HP.out]
  rw [HZ.out] at ho2
  have hG2 := gb_trans hg1 hg2
  go_wp2_with fail
  refine (c_spec_TreeProof _ _ _ _ ss place _ (Sl.keep0 (Sl.own ho1) hg2) Hss.out).mono ?_
  rintro e w3 ⟨A3, m3, c3, rfl, hg3, ho3⟩
  rw [HP.out]
  rw [HZ.out] at ho3
  have hG3 := gb_trans hG2 hg3
  have ho2_3 := own_below ho2 hg3
  have hI3 : Strs w3 w.heap.size A q c ss := Sl.keep0 (Sl.own ho1) (gb_trans hg2 hg3)
  have hO3 := Sl.own ho2_3
  go_wp2_with fail
  refine (c_sameInts _ _ _ _ _ _ _ _ zs zs _ hO3 (Sl.own ho3)).mono ?_
  rintro e w4 ⟨rfl, d4, rfl⟩
  cases P with
  | false =>
    go_wp2_with fail
    refine (c_sameInts _ _ _ _ _ _ _ _ zs zs _ (Sl.drewN hO3 d4) (Sl.drewN (Sl.own ho3) d4)).mono ?_
    rintro e w5 ⟨rfl, d5, rfl⟩
    go_wp2
    go_ret
    exact ⟨rfl, gb_below (gb_drewN hG3 (d4 + d5))⟩
  | true =>
    obtain ⟨p, s, rfl, hpl, hsp, hok, hl1, hl8, htp⟩ := proof_at HP.out
    rw [HZ.out] at htp
    rw [hsl.out] at hpl hl1 hl8
    have Hsp := Lib.hid hsp
    have Hok := Lib.hid hok
    have Htp := Lib.hid htp
    have hsz := Hss.out s (List.mem_of_getElem? hsp)
    have hm2 : m2 ≤ 3 := by have := own_len ho2; have := hzl.out; omega
    have hzm := Lib.hid (own_len ho2)
    clear hsp hok htp hp0 hp1
    obtain ⟨g, rfl, hg0, hg1'⟩ := own_addr ho1 (by omega)
    have mp : w3.cell? ⟨g, p, none⟩ = some (.string s) := by
      obtain ⟨b, off, he, _, _, hc⟩ := hI3.2.2.2 (by omega)
      injection he with he; injection he with e1 e2; subst e1 e2
      have := hc p (.string s) (by rw [List.getElem?_map, Hsp.out]; rfl)
      rwa [Nat.zero_add] at this
    have hpi : (p : Int) < (q : Int) := by omega
    have hlc := hI3.le
    have hcm := hI3.max
    have hlcO := hO3.le
    have hcmO := hO3.max
    have hG4 := gb_drewN (gb_refl w3 none) d4
    obtain ⟨T, hT⟩ : ∃ T, treeRoot ss = T := ⟨_, rfl⟩
    have HT := Lib.hid hT
    clear hT
    go_wp2_with fail
    refine (c_impl_TreeRoot _ _ _ _ ss _ (Sl.keep0 hI3 hG4) Hss.out).mono ?_
    rintro e w5 ⟨rfl, hg5⟩
    rw [HT.out]
    have hg35 := gb_trans hG4 hg5
    have hI5 := Sl.keep0 hI3 hg35
    have hO5 := Sl.keep0 hO3 hg35
    have mp5 := gb_cell hg35 mp (by simp)
    have hG5 := gb_trans hG3 hg35
    have hsz15 : w1.heap.size ≤ w5.heap.size := Nat.le_trans hg2.size (Nat.le_trans hg3.size hg35.size)
    have hTv : Val T := by rw [← HT.out]; exact root_val Hok.out
    obtain ⟨hT0, hT1⟩ := hTv
    obtain ⟨T1, hT1e⟩ : ∃ T1, (T + 1) % 9973 = T1 := ⟨_, rfl⟩
    have hne : T1 ≠ T := by omega
    have hwT : IntKind.i64.wrap (T + 1) = T + 1 := IntWalk.i64_in _ (by omega)
    have htm : (T + 1).tmod 9973 = T1 := by rw [Int.tmod_eq_emod_of_nonneg (by omega)]; exact hT1e
    clear hT1e
    have hss1 : Hid (1 ≤ ss.length ∧ ss.length ≤ 8) := Lib.hid (by rw [hsl.out]; exact ⟨hl1, hl8⟩)
    have k1 : Hid (treeCheck T1 (q : Int) (p : Int) s zs = false) := Lib.hid (by
      rw [Htp.out, ← hsl.out]
      exact check_root Hok.out Hsp.out hss1.out.1 hss1.out.2 (by rw [HT.out]; exact hne))
    have k2 : Hid (treeCheck T (q : Int) (p : Int) s (zs ++ [1]) = false) := Lib.hid (by
      rw [Htp.out, ← hsl.out]
      exact check_more Hsp.out hss1.out.1 hss1.out.2 T 1)
    clear hI3 hO3 mp hG4 hne
    by_cases hm0 : m2 = 0
    case pos =>
      subst hm0
      have hz0 : Hid (zs = []) := Lib.hid (List.eq_nil_of_length_eq_zero hzm.out)
      obtain ⟨M, hM⟩ : ∃ M : Nat, M = 1 := ⟨_, rfl⟩
      have hM1 : 1 ≤ M := by omega
      have hMm : 0 ≤ M := by omega
      have hA2 : A2 = none → c2 = 0 := by
        intro e
        subst e
        rcases ho2.2 with ⟨h1, _⟩ | ⟨g', cap, cur, h1, _⟩
        · injection h1
        · injection h1 with h1; cases h1
      have app24 : ∀ (x : World) (v22 : Value), RowB x w5.heap.size v22 0 0 [] → (Below w5.heap.size w5 x ∧ w5.heap.size ≤ x.heap.size) → Ints x w1.heap.size A2 0 c2 zs →
          ∃ v y, (Builtin.append_ #[32, 32] 32 #[v22, .slice A2 0 c2]).run Try.prog x = .ok v y ∧ KP w5.heap.size M 0 x y ∧ Fact24 w5.heap.size 0 zs v y := by
        intro x v22 hR hC hOx
        obtain ⟨y, hr, hK, hF⟩ := rowB_zero (M := M) (m := 0) (lo := 0) hR hC.2 hA2 32
        exact ⟨_, y, hr, hK, 0, fun _ => rfl, by rw [hz0.out]; exact hF⟩
      have app26 : ∀ (x : World) (v24 v25 : Value), Fact24 w5.heap.size 0 zs v24 x → RowB x w5.heap.size v25 1 1 [1] → (Below w5.heap.size w5 x ∧ w5.heap.size ≤ x.heap.size) →
          ∃ v y, (Builtin.append_ #[32, 32] 32 #[v24, v25]).run Try.prog x = .ok v y ∧ KP w5.heap.size M 0 x y ∧ (∃ c, RowB y w5.heap.size v (0 + 1) c (zs ++ [1])) := by
        intro x v24 v25 hR h1 hC
        obtain ⟨c, hc, hR⟩ := hR
        have hc := hc rfl
        subst hc
        have hR' := hR
        have h1' := h1
        obtain ⟨g4, cur4, rfl, _⟩ := hR'
        obtain ⟨g5, cur5, rfl, _⟩ := h1'
        obtain ⟨c', y, hr, hg, hF⟩ := rowB_grow (k := 1) (us := [1]) hR hC.2 rfl h1.cells (by omega) (by omega) 32
        exact ⟨_, y, hr, KP.of_grown hg hC.2, c', hF⟩
      have App24 := Lib.hid app24
      have App26 := Lib.hid app26
      clear app24 app26
      go_wp2_with fail
      refine wp_flow (by kernel_rfl) (by kernel_rfl) (fun _ x => Below w5.heap.size w5 x ∧ w5.heap.size ≤ x.heap.size) (fun _ x y => KP w5.heap.size M 0 x y) (otherFacts w5.heap.size 0 zs [.int .i64 T, .int .i64 (T + 1), .int .i64 T1, .slice (some ⟨g, 0, none⟩) q c, .int .i64 q, .int .i64 p, .slice (some ⟨g, 0, none⟩) q c, .int .i64 p, .pointer (some ⟨g, p, none⟩), .string s, .slice A2 0 c2, .bool false, .bool true, .bool true, .int .i64 T, .slice (some ⟨g, 0, none⟩) q c, .int .i64 q, .int .i64 p, .slice (some ⟨g, 0, none⟩) q c, .int .i64 p, .pointer (some ⟨g, p, none⟩), .string s, undef, .slice A2 0 c2, undef, undef, undef, .bool false, .bool true, .bool true, .bool true, .slice A2 0 c2, .int .i64 0, .bool true, .bool true, undef, undef, undef, undef, undef, undef, undef, undef, undef, undef, undef, undef, undef, undef, undef, .bool true, .bool true, .bool true]) ⟨(Below.refl _ _).drew, Nat.le_refl _⟩ (fun n x y h hC => ⟨hC.1.trans h.1, Nat.le_trans hC.2 h.1.size⟩) (fun n x y h _ => otherFacts_kept hzm.out hM1 hMm x y h) ?_ ?_
      · refine ⟨fun n u x hn hC hp => ?_, fun n u x hn hC hp => ?_, fun n u x hn hC hp => ?_, fun n u x hn hC hp => ?_, fun n u x hn hC hp => ?_, fun n u x hn hC hp => ?_, fun n u x hn hC hp => ?_, fun n u x hn hC hp => ?_, fun n u x hn hC hp => ?_, fun n u x hn hC hp => ?_, fun n u x hn hC hp => ?_, fun n u x hn hC hp => ?_, fun n u x hn hC hp => ?_, fun n u x hn hC hp => ?_, fun n u x hn hC hp => ?_, fun n u x hn hC hp => ?_, fun n u x hn hC hp => ?_, fun n u x hn hC hp => ?_, fun n u x hn hC hp => ?_, fun n u x hn hC hp => ?_, fun n u x hn hC hp => ?_, fun n u x hn hC hp => ?_, fun n u x hn hC hp => ?_, fun n u x hn hC hp => ?_, fun n u x hn hC hp => ?_, fun n u x hn hC hp => ?_, fun n u x hn hC hp => ?_, fun n u x hn hC hp => ?_, fun n u x hn hC hp => ?_, fun n u x hn hC hp => ?_, fun n u x hn hC hp => ?_, fun n u x hn hC hp => ?_, fun n u x hn hC hp => ?_, fun n u x hn hC hp => ?_, fun n u x hn hC hp => ?_, fun n u x hn hC hp => ?_, fun n u x hn hC hp => ?_, fun n u x hn hC hp => ?_, fun n u x hn hC hp => ?_, fun n u x hn hC hp => ?_, fun n u x hn hC hp => ?_, fun n u x hn hC hp => ?_, fun n u x hn hC hp => ?_, fun n u x hn hC hp => ?_, fun n u x hn hC hp => ?_, fun n u x hn hC hp => ?_, fun n u x hn hC hp => ?_, fun n u x hn hC hp => ?_, fun n u x hn hC hp => ?_, fun n u x hn hC hp => ?_, fun n u x hn hC hp => ?_, fun n u x hn hC hp => ?_, fun n u x hn hC hp => ?_, trivial⟩
        · simp [flowPreds, Region.binds, otherFacts] at hp
          go_simp
          exact ⟨KP.of_grown (gb_refl _ _) hC.2, rfl⟩
        · simp [flowPreds, Region.binds, otherFacts] at hp
          go_simp
          exact ⟨KP.of_grown (gb_refl _ _) hC.2, rfl⟩
        · simp [flowPreds, Region.binds, otherFacts] at hp
          go_simp
          exact ⟨KP.of_grown (gb_refl _ _) hC.2, rfl⟩
        · simp [flowPreds, Region.binds, otherFacts] at hp
          go_simp
          exact ⟨KP.of_grown (gb_refl _ _) hC.2, rfl⟩
        · simp [flowPreds, Region.binds, otherFacts] at hp
          go_simp
          exact ⟨KP.of_grown (gb_refl _ _) hC.2, rfl⟩
        · simp [flowPreds, Region.binds, otherFacts] at hp
          go_simp
          exact ⟨KP.of_grown (gb_refl _ _) hC.2, rfl⟩
        · simp [flowPreds, Region.binds, otherFacts] at hp
          go_simp
          exact ⟨KP.of_grown (gb_refl _ _) hC.2, rfl⟩
        · simp [flowPreds, Region.binds, otherFacts] at hp
          go_simp
          exact ⟨KP.of_grown (gb_refl _ _) hC.2, rfl⟩
        · simp [flowPreds, Region.binds, otherFacts] at hp
          go_simp
          exact ⟨KP.of_grown (gb_refl _ _) hC.2, rfl⟩
        · have mp' := (hC.1.cell (p := ⟨g, p, none⟩) (Nat.lt_of_lt_of_le hg1' hsz15)).trans mp5
          simp [flowPreds, Region.binds, otherFacts] at hp
          go_simp
          exact ⟨KP.of_grown (gb_refl _ _) hC.2, rfl⟩
        · simp [flowPreds, Region.binds, otherFacts] at hp
          go_simp
          exact ⟨KP.of_grown (gb_refl _ _) hC.2, rfl⟩
        · have hIx := sl_below hI5 hC.1 (Nat.le_refl _)
          have hOx := sl_below hO5 hC.1 (Nat.le_refl _)
          simp [flowPreds, Region.binds, otherFacts] at hp
          go_simp
          refine (c_impl_TreeCheck _ _ _ _ _ _ _ _ zs _ hsz (by omega) hOx).mono ?_
          rintro e y ⟨rfl, hg⟩
          exact ⟨_, rfl, KP.of_grown hg hC.2, by rw [k1.out]; rfl⟩
        · simp [flowPreds, Region.binds, otherFacts] at hp
          go_simp
          exact ⟨KP.of_grown (gb_refl _ _) hC.2, rfl⟩
        · simp [flowPreds, Region.binds, otherFacts] at hp
          go_simp
          exact ⟨KP.of_grown (gb_refl _ _) hC.2, rfl⟩
        · simp [flowPreds, Region.binds, otherFacts] at hp
          go_simp
          exact ⟨KP.of_grown (gb_refl _ _) hC.2, rfl⟩
        · simp [flowPreds, Region.binds, otherFacts] at hp
          go_simp
          exact ⟨KP.of_grown (gb_refl _ _) hC.2, rfl⟩
        · simp [flowPreds, Region.binds, otherFacts] at hp
          go_simp
          exact ⟨KP.of_grown (gb_refl _ _) hC.2, rfl⟩
        · simp [flowPreds, Region.binds, otherFacts] at hp
          go_simp
          exact ⟨KP.of_grown (gb_refl _ _) hC.2, rfl⟩
        · simp [flowPreds, Region.binds, otherFacts] at hp
          go_simp
          exact ⟨KP.of_grown (gb_refl _ _) hC.2, rfl⟩
        · simp [flowPreds, Region.binds, otherFacts] at hp
          go_simp
          exact ⟨KP.of_grown (gb_refl _ _) hC.2, rfl⟩
        · simp [flowPreds, Region.binds, otherFacts] at hp
          go_simp
          exact ⟨KP.of_grown (gb_refl _ _) hC.2, rfl⟩
        · have mp' := (hC.1.cell (p := ⟨g, p, none⟩) (Nat.lt_of_lt_of_le hg1' hsz15)).trans mp5
          simp [flowPreds, Region.binds, otherFacts] at hp
          go_simp
          exact ⟨KP.of_grown (gb_refl _ _) hC.2, rfl⟩
        · simp [flowPreds, Region.binds, otherFacts] at hp
          go_simp
          exact ⟨KP.of_grown (gb_alloc (gb_refl _ _) _) hC.2, x.heap.size, #[], rfl, hC.2, Blk.new _ _ _, rfl, Nat.le_refl _, Nat.zero_le _, rfl, fun j hj => absurd hj (by omega)⟩
        · simp [flowPreds, Region.binds, otherFacts] at hp
          go_simp
          exact ⟨KP.of_grown (gb_refl _ _) hC.2, rfl⟩
        · have hR := (show RowB x _ (u 22) 0 0 [] from hp 22 (by decide))
          have e23 : u 23 = .slice A2 0 c2 := hp 23 (by decide)
          have e13 : u 13 = .bool true := hp 13 (by decide)
          have hIx := sl_below hI5 hC.1 (Nat.le_refl _)
          have hOx := sl_below hO5 hC.1 (Nat.le_refl _)
          obtain ⟨v, y, hr, hK, hF⟩ := App24.out _ _ hR hC hOx
          rw [← e23] at hr
          refine flowOp_app (by go_simp) (.tmp 75) (.tmp 76) rfl (by go_simp) (by go_simp) hr ⟨hK, hF⟩
        · simp [flowPreds, Region.binds, otherFacts] at hp
          go_simp
          exact ⟨KP.of_grown (gb_alloc (gb_refl _ _) _) hC.2, x.heap.size, #[.int .i64 1], rfl, hC.2, Blk.new _ _ _, rfl, Nat.le_refl _, by decide, rfl, fun j hj => by cases j with | zero => rfl | succ j => exact absurd hj (by omega)⟩
        · have hR := (show Fact24 w5.heap.size 0 zs (u 24) x from hp 24 (by decide))
          have h1 := (show RowB x _ (u 25) 1 1 [1] from hp 25 (by decide))
          have e13 : u 13 = .bool true := hp 13 (by decide)
          obtain ⟨v, y, hr, hK, hF⟩ := App26.out _ _ _ hR h1 hC
          refine flowOp_app (by go_simp) (.tmp 77) (.tmp 78) rfl (by go_simp) (by go_simp) hr ⟨hK, hF⟩
        · obtain ⟨c26, hR⟩ := (show ∃ c, RowB x _ (u 26) (0 + 1) c (zs ++ [1]) from hp 26 (by decide))
          obtain ⟨g26, cur26, e26, _⟩ := hR
          have hR := (show ∃ c, RowB x _ (u 26) (0 + 1) c (zs ++ [1]) from hp 26 (by decide))
          have hi26 : ∃ c, u 26 = .slice (some ⟨g26, 0, none⟩) (0 + 1) c ∧ Ints x w5.heap.size (some ⟨g26, 0, none⟩) (0 + 1) c (zs ++ [1]) := by
            obtain ⟨c, hR⟩ := hR
            have hR' := hR
            obtain ⟨g', cur', e', _⟩ := hR'
            rw [e'] at e26
            injection e26 with e1 e2 e3
            injection e1 with e1
            injection e1 with e1
            subst e1 e3
            exact ⟨c, e', RowB.ints (by rw [← e']; exact hR)⟩
          clear hR e26
          obtain ⟨cc, e26, hOx26⟩ := hi26
          simp [flowPreds, Region.binds, otherFacts] at hp
          go_simp
          refine (c_impl_TreeCheck _ _ _ _ _ _ _ _ (zs ++ [1]) _ hsz (by omega) hOx26).mono ?_
          rintro e y ⟨rfl, hg⟩
          exact ⟨_, rfl, KP.of_grown hg hC.2, by rw [k2.out]; rfl⟩
        · simp [flowPreds, Region.binds, otherFacts] at hp
          go_simp
          exact ⟨KP.of_grown (gb_refl _ _) hC.2, rfl⟩
        · simp [flowPreds, Region.binds, otherFacts] at hp
          go_simp
          exact ⟨KP.of_grown (gb_refl _ _) hC.2, rfl⟩
        · simp [flowPreds, Region.binds, otherFacts] at hp
          go_simp
          exact ⟨KP.of_grown (gb_refl _ _) hC.2, rfl⟩
        · simp [flowPreds, Region.binds, otherFacts] at hp
          go_simp
          exact ⟨KP.of_grown (gb_refl _ _) hC.2, rfl⟩
        · simp [flowPreds, Region.binds, otherFacts] at hp
          go_simp
          exact ⟨KP.of_grown (gb_refl _ _) hC.2, rfl⟩
        · simp [flowPreds, Region.binds, otherFacts] at hp
          go_simp
          exact ⟨KP.of_grown (gb_refl _ _) hC.2, rfl⟩
        · simp [flowPreds, Region.binds, otherFacts] at hp
          go_simp
          exact ⟨KP.of_grown (gb_refl _ _) hC.2, rfl⟩
        · simp [flowPreds, Region.binds, otherFacts] at hp
          go_simp
          exact ⟨KP.of_grown (gb_refl _ _) hC.2, rfl⟩
        · simp [flowPreds, Region.binds, otherFacts] at hp
          go_simp
          exact ⟨KP.of_grown (gb_refl _ _) hC.2, rfl⟩
        · simp [flowPreds, Region.binds, otherFacts] at hp
          go_simp
          exact ⟨KP.of_grown (gb_refl _ _) hC.2, rfl⟩
        · simp [flowPreds, Region.binds, otherFacts] at hp
          go_simp
          exact ⟨KP.of_grown (gb_refl _ _) hC.2, rfl⟩
        · simp [flowPreds, Region.binds, otherFacts] at hp
          go_simp
          exact ⟨KP.of_grown (gb_refl _ _) hC.2, rfl⟩
        · simp [flowPreds, Region.binds, otherFacts] at hp
          go_simp
          exact ⟨KP.of_grown (gb_refl _ _) hC.2, rfl⟩
        · simp [flowPreds, Region.binds, otherFacts] at hp
          go_simp
          exact ⟨KP.of_grown (gb_refl _ _) hC.2, rfl⟩
        · have mp' := (hC.1.cell (p := ⟨g, p, none⟩) (Nat.lt_of_lt_of_le hg1' hsz15)).trans mp5
          simp [flowPreds, Region.binds, otherFacts] at hp
          go_simp
          exact ⟨KP.of_grown (gb_refl _ _) hC.2, rfl⟩
        · simp [flowPreds, Region.binds, otherFacts] at hp
          go_simp
          exact ⟨KP.of_grown (gb_refl _ _) hC.2, rfl⟩
        · simp [flowPreds, Region.binds, otherFacts] at hp
          go_simp
          exact ⟨KP.of_grown (gb_refl _ _) hC.2, rfl⟩
        · simp [flowPreds, Region.binds, otherFacts] at hp
          go_simp
          exact ⟨KP.of_grown (gb_refl _ _) hC.2, rfl⟩
        · simp [flowPreds, Region.binds, otherFacts] at hp
          go_simp
          exact ⟨KP.of_grown (gb_refl _ _) hC.2, rfl⟩
        · simp [flowPreds, Region.binds, otherFacts] at hp
          go_simp
          exact ⟨KP.of_grown (gb_refl _ _) hC.2, rfl⟩
        · simp [flowPreds, Region.binds, otherFacts] at hp
          go_simp
          exact ⟨KP.of_grown (gb_refl _ _) hC.2, rfl⟩
        · simp [flowPreds, Region.binds, otherFacts] at hp
          go_simp
          exact ⟨KP.of_grown (gb_refl _ _) hC.2, rfl⟩
        · simp [flowPreds, Region.binds, otherFacts] at hp
          go_simp
          exact ⟨KP.of_grown (gb_refl _ _) hC.2, rfl⟩
        · simp [flowPreds, Region.binds, otherFacts] at hp
          go_simp
          exact ⟨KP.of_grown (gb_refl _ _) hC.2, rfl⟩
        · simp [flowPreds, Region.binds, otherFacts] at hp
          go_simp
          exact ⟨KP.of_grown (gb_refl _ _) hC.2, rfl⟩
      · intro n u x hn hC hp
        have e1 : u 52 = .bool true := hp 52 (by decide)
        go_simp
        go_wp2
        go_ret
        exact ⟨rfl, (gb_below hG5).trans (hC.1.mono hG5.size)⟩
    case neg =>
      have hmp : 0 < m2 := by omega
      have hmi : (0 : Int) < (m2 : Int) := by omega
      have hmz : ((m2 : Int) == 0) = false := by simp; omega
      obtain ⟨M, hM⟩ : ∃ M : Nat, M = m2 := ⟨_, rfl⟩
      have hM1 : 1 ≤ M := by omega
      have hMm : m2 ≤ M := by omega
      have hw9 : IntKind.i64.wrap ((m2 : Int) - 1) = ((m2 - 1 : Nat) : Int) := by rw [IntWalk.i64_in _ (by omega)]; omega
      have k3 : Hid (treeCheck T (q : Int) (p : Int) s (zs.take (m2 - 1)) = false) := Lib.hid (by
        have hl := hzm.out
        rw [Htp.out] at hl ⊢
        rw [← hsl.out]
        exact check_less Hsp.out hss1.out.1 hss1.out.2 T (by omega))
      have hO48 : Ints w5 w1.heap.size A2 (m2 - 1) c2 (zs.take (m2 - 1)) := ⟨by omega, hO5.2.1, by
        have := hO5.2.2.take (k := m2 - 1) (by omega)
        rw [List.map_take]
        simpa using this⟩
      obtain ⟨b2, off2, rfl, _⟩ := hO5.2.2.2 hmp
      have hcc : Hid (m2 ≤ c2 + 1) := Lib.hid (by omega)
      have app24 : ∀ (x : World) (v22 : Value), RowB x w5.heap.size v22 0 0 [] → (Below w5.heap.size w5 x ∧ w5.heap.size ≤ x.heap.size) → Ints x w1.heap.size (some ⟨b2, off2, none⟩) m2 c2 zs →
          ∃ v y, (Builtin.append_ #[32, 32] 32 #[v22, .slice (some ⟨b2, off2, none⟩) m2 c2]).run Try.prog x = .ok v y ∧ KP w5.heap.size M m2 x y ∧ Fact24 w5.heap.size m2 zs v y := by
        intro x v22 hR hC hOx
        have hR' := hR
        obtain ⟨g4, cur4, rfl, _⟩ := hR'
        have hcells : ∀ j u, (zs.map (Value.int .i64))[j]? = some u → x.cell? ((⟨b2, off2, none⟩ : Addr).add j) = some u := by
          intro j u hu
          obtain ⟨b', off', e, _, _, hc⟩ := hOx.2.2.2 hmp
          injection e with e
          injection e with e1 e2
          subst e1 e2
          have hadd : (⟨b2, off2, none⟩ : Addr).add j = ⟨b2, off2 + j, none⟩ := by
            unfold Addr.add
            split
            · simp_all
            · rfl
          rw [hadd]
          exact hc j u hu
        obtain ⟨c', y, hr, hg, hF⟩ := rowB_grow (k := m2) (us := zs) (c0 := c2) hR hC.2 hzm.out hcells (by omega) (by omega) 32
        rw [Nat.zero_add] at hr hF
        exact ⟨_, y, hr, KP.of_grown hg hC.2, c', fun e => absurd e (by omega), by simpa using hF⟩
      have app26 : ∀ (x : World) (v24 v25 : Value), Fact24 w5.heap.size m2 zs v24 x → RowB x w5.heap.size v25 1 1 [1] → (Below w5.heap.size w5 x ∧ w5.heap.size ≤ x.heap.size) →
          ∃ v y, (Builtin.append_ #[32, 32] 32 #[v24, v25]).run Try.prog x = .ok v y ∧ KP w5.heap.size M m2 x y ∧ (∃ c, RowB y w5.heap.size v (m2 + 1) c (zs ++ [1])) := by
        intro x v24 v25 hR h1 hC
        obtain ⟨c, hc, hR⟩ := hR
        have hR' := hR
        have h1' := h1
        obtain ⟨g4, cur4, rfl, _⟩ := hR'
        obtain ⟨g5, cur5, rfl, _⟩ := h1'
        by_cases hroom : m2 + 1 ≤ c
        · obtain ⟨y, hr, hK, hF⟩ := rowB_room (M := M) hR hC.2 (h1.cells 0 _ rfl) hroom (by omega) 32
          exact ⟨_, y, hr, hK, c, hF⟩
        · obtain ⟨c', y, hr, hg, hF⟩ := rowB_grow (k := 1) (us := [1]) hR hC.2 rfl h1.cells (by omega) (by omega) 32
          exact ⟨_, y, hr, KP.of_grown hg hC.2, c', hF⟩
      have App24 := Lib.hid app24
      have App26 := Lib.hid app26
      clear app24 app26
      go_wp2_with fail
      refine wp_flow (by kernel_rfl) (by kernel_rfl) (fun _ x => Below w5.heap.size w5 x ∧ w5.heap.size ≤ x.heap.size) (fun _ x y => KP w5.heap.size M m2 x y) (otherFacts w5.heap.size m2 zs [.int .i64 T, .int .i64 (T + 1), .int .i64 T1, .slice (some ⟨g, 0, none⟩) q c, .int .i64 q, .int .i64 p, .slice (some ⟨g, 0, none⟩) q c, .int .i64 p, .pointer (some ⟨g, p, none⟩), .string s, .slice (some ⟨b2, off2, none⟩) m2 c2, .bool false, .bool true, .bool true, .int .i64 T, .slice (some ⟨g, 0, none⟩) q c, .int .i64 q, .int .i64 p, .slice (some ⟨g, 0, none⟩) q c, .int .i64 p, .pointer (some ⟨g, p, none⟩), .string s, undef, .slice (some ⟨b2, off2, none⟩) m2 c2, undef, undef, undef, .bool false, .bool true, .bool true, .bool true, .slice (some ⟨b2, off2, none⟩) m2 c2, .int .i64 m2, .bool false, .bool false, .int .i64 T, .slice (some ⟨g, 0, none⟩) q c, .int .i64 q, .int .i64 p, .slice (some ⟨g, 0, none⟩) q c, .int .i64 p, .pointer (some ⟨g, p, none⟩), .string s, .slice (some ⟨b2, off2, none⟩) m2 c2, .slice (some ⟨b2, off2, none⟩) m2 c2, .int .i64 m2, .int .i64 (m2 - 1 : Nat), .slice (some ⟨b2, off2, none⟩) (m2 - 1) c2, .bool false, .bool true, .bool true, .bool true, .bool true]) ⟨(Below.refl _ _).drew, Nat.le_refl _⟩ (fun n x y h hC => ⟨hC.1.trans h.1, Nat.le_trans hC.2 h.1.size⟩) (fun n x y h _ => otherFacts_kept hzm.out hM1 hMm x y h) ?_ ?_
      · refine ⟨fun n u x hn hC hp => ?_, fun n u x hn hC hp => ?_, fun n u x hn hC hp => ?_, fun n u x hn hC hp => ?_, fun n u x hn hC hp => ?_, fun n u x hn hC hp => ?_, fun n u x hn hC hp => ?_, fun n u x hn hC hp => ?_, fun n u x hn hC hp => ?_, fun n u x hn hC hp => ?_, fun n u x hn hC hp => ?_, fun n u x hn hC hp => ?_, fun n u x hn hC hp => ?_, fun n u x hn hC hp => ?_, fun n u x hn hC hp => ?_, fun n u x hn hC hp => ?_, fun n u x hn hC hp => ?_, fun n u x hn hC hp => ?_, fun n u x hn hC hp => ?_, fun n u x hn hC hp => ?_, fun n u x hn hC hp => ?_, fun n u x hn hC hp => ?_, fun n u x hn hC hp => ?_, fun n u x hn hC hp => ?_, fun n u x hn hC hp => ?_, fun n u x hn hC hp => ?_, fun n u x hn hC hp => ?_, fun n u x hn hC hp => ?_, fun n u x hn hC hp => ?_, fun n u x hn hC hp => ?_, fun n u x hn hC hp => ?_, fun n u x hn hC hp => ?_, fun n u x hn hC hp => ?_, fun n u x hn hC hp => ?_, fun n u x hn hC hp => ?_, fun n u x hn hC hp => ?_, fun n u x hn hC hp => ?_, fun n u x hn hC hp => ?_, fun n u x hn hC hp => ?_, fun n u x hn hC hp => ?_, fun n u x hn hC hp => ?_, fun n u x hn hC hp => ?_, fun n u x hn hC hp => ?_, fun n u x hn hC hp => ?_, fun n u x hn hC hp => ?_, fun n u x hn hC hp => ?_, fun n u x hn hC hp => ?_, fun n u x hn hC hp => ?_, fun n u x hn hC hp => ?_, fun n u x hn hC hp => ?_, fun n u x hn hC hp => ?_, fun n u x hn hC hp => ?_, fun n u x hn hC hp => ?_, trivial⟩
        · simp [flowPreds, Region.binds, otherFacts] at hp
          go_simp
          exact ⟨KP.of_grown (gb_refl _ _) hC.2, rfl⟩
        · simp [flowPreds, Region.binds, otherFacts] at hp
          go_simp
          exact ⟨KP.of_grown (gb_refl _ _) hC.2, rfl⟩
        · simp [flowPreds, Region.binds, otherFacts] at hp
          go_simp
          exact ⟨KP.of_grown (gb_refl _ _) hC.2, rfl⟩
        · simp [flowPreds, Region.binds, otherFacts] at hp
          go_simp
          exact ⟨KP.of_grown (gb_refl _ _) hC.2, rfl⟩
        · simp [flowPreds, Region.binds, otherFacts] at hp
          go_simp
          exact ⟨KP.of_grown (gb_refl _ _) hC.2, rfl⟩
        · simp [flowPreds, Region.binds, otherFacts] at hp
          go_simp
          exact ⟨KP.of_grown (gb_refl _ _) hC.2, rfl⟩
        · simp [flowPreds, Region.binds, otherFacts] at hp
          go_simp
          exact ⟨KP.of_grown (gb_refl _ _) hC.2, rfl⟩
        · simp [flowPreds, Region.binds, otherFacts] at hp
          go_simp
          exact ⟨KP.of_grown (gb_refl _ _) hC.2, rfl⟩
        · simp [flowPreds, Region.binds, otherFacts] at hp
          go_simp
          exact ⟨KP.of_grown (gb_refl _ _) hC.2, rfl⟩
        · have mp' := (hC.1.cell (p := ⟨g, p, none⟩) (Nat.lt_of_lt_of_le hg1' hsz15)).trans mp5
          simp [flowPreds, Region.binds, otherFacts] at hp
          go_simp
          exact ⟨KP.of_grown (gb_refl _ _) hC.2, rfl⟩
        · simp [flowPreds, Region.binds, otherFacts] at hp
          go_simp
          exact ⟨KP.of_grown (gb_refl _ _) hC.2, rfl⟩
        · have hIx := sl_below hI5 hC.1 (Nat.le_refl _)
          have hOx := sl_below hO5 hC.1 (Nat.le_refl _)
          simp [flowPreds, Region.binds, otherFacts] at hp
          go_simp
          refine (c_impl_TreeCheck _ _ _ _ _ _ _ _ zs _ hsz (by omega) hOx).mono ?_
          rintro e y ⟨rfl, hg⟩
          exact ⟨_, rfl, KP.of_grown hg hC.2, by rw [k1.out]; rfl⟩
        · simp [flowPreds, Region.binds, otherFacts] at hp
          go_simp
          exact ⟨KP.of_grown (gb_refl _ _) hC.2, rfl⟩
        · simp [flowPreds, Region.binds, otherFacts] at hp
          go_simp
          exact ⟨KP.of_grown (gb_refl _ _) hC.2, rfl⟩
        · simp [flowPreds, Region.binds, otherFacts] at hp
          go_simp
          exact ⟨KP.of_grown (gb_refl _ _) hC.2, rfl⟩
        · simp [flowPreds, Region.binds, otherFacts] at hp
          go_simp
          exact ⟨KP.of_grown (gb_refl _ _) hC.2, rfl⟩
        · simp [flowPreds, Region.binds, otherFacts] at hp
          go_simp
          exact ⟨KP.of_grown (gb_refl _ _) hC.2, rfl⟩
        · simp [flowPreds, Region.binds, otherFacts] at hp
          go_simp
          exact ⟨KP.of_grown (gb_refl _ _) hC.2, rfl⟩
        · simp [flowPreds, Region.binds, otherFacts] at hp
          go_simp
          exact ⟨KP.of_grown (gb_refl _ _) hC.2, rfl⟩
        · simp [flowPreds, Region.binds, otherFacts] at hp
          go_simp
          exact ⟨KP.of_grown (gb_refl _ _) hC.2, rfl⟩
        · simp [flowPreds, Region.binds, otherFacts] at hp
          go_simp
          exact ⟨KP.of_grown (gb_refl _ _) hC.2, rfl⟩
        · have mp' := (hC.1.cell (p := ⟨g, p, none⟩) (Nat.lt_of_lt_of_le hg1' hsz15)).trans mp5
          simp [flowPreds, Region.binds, otherFacts] at hp
          go_simp
          exact ⟨KP.of_grown (gb_refl _ _) hC.2, rfl⟩
        · simp [flowPreds, Region.binds, otherFacts] at hp
          go_simp
          exact ⟨KP.of_grown (gb_alloc (gb_refl _ _) _) hC.2, x.heap.size, #[], rfl, hC.2, Blk.new _ _ _, rfl, Nat.le_refl _, Nat.zero_le _, rfl, fun j hj => absurd hj (by omega)⟩
        · simp [flowPreds, Region.binds, otherFacts] at hp
          go_simp
          exact ⟨KP.of_grown (gb_refl _ _) hC.2, rfl⟩
        · have hR := (show RowB x _ (u 22) 0 0 [] from hp 22 (by decide))
          have e23 : u 23 = .slice (some ⟨b2, off2, none⟩) m2 c2 := hp 23 (by decide)
          have e13 : u 13 = .bool true := hp 13 (by decide)
          have hIx := sl_below hI5 hC.1 (Nat.le_refl _)
          have hOx := sl_below hO5 hC.1 (Nat.le_refl _)
          obtain ⟨v, y, hr, hK, hF⟩ := App24.out _ _ hR hC hOx
          rw [← e23] at hr
          refine flowOp_app (by go_simp) (.tmp 75) (.tmp 76) rfl (by go_simp) (by go_simp) hr ⟨hK, hF⟩
        · simp [flowPreds, Region.binds, otherFacts] at hp
          go_simp
          exact ⟨KP.of_grown (gb_alloc (gb_refl _ _) _) hC.2, x.heap.size, #[.int .i64 1], rfl, hC.2, Blk.new _ _ _, rfl, Nat.le_refl _, by decide, rfl, fun j hj => by cases j with | zero => rfl | succ j => exact absurd hj (by omega)⟩
        · have hR := (show Fact24 w5.heap.size m2 zs (u 24) x from hp 24 (by decide))
          have h1 := (show RowB x _ (u 25) 1 1 [1] from hp 25 (by decide))
          have e13 : u 13 = .bool true := hp 13 (by decide)
          obtain ⟨v, y, hr, hK, hF⟩ := App26.out _ _ _ hR h1 hC
          refine flowOp_app (by go_simp) (.tmp 77) (.tmp 78) rfl (by go_simp) (by go_simp) hr ⟨hK, hF⟩
        · obtain ⟨c26, hR⟩ := (show ∃ c, RowB x _ (u 26) (m2 + 1) c (zs ++ [1]) from hp 26 (by decide))
          obtain ⟨g26, cur26, e26, _⟩ := hR
          have hR := (show ∃ c, RowB x _ (u 26) (m2 + 1) c (zs ++ [1]) from hp 26 (by decide))
          have hi26 : ∃ c, u 26 = .slice (some ⟨g26, 0, none⟩) (m2 + 1) c ∧ Ints x w5.heap.size (some ⟨g26, 0, none⟩) (m2 + 1) c (zs ++ [1]) := by
            obtain ⟨c, hR⟩ := hR
            have hR' := hR
            obtain ⟨g', cur', e', _⟩ := hR'
            rw [e'] at e26
            injection e26 with e1 e2 e3
            injection e1 with e1
            injection e1 with e1
            subst e1 e3
            exact ⟨c, e', RowB.ints (by rw [← e']; exact hR)⟩
          clear hR e26
          obtain ⟨cc, e26, hOx26⟩ := hi26
          simp [flowPreds, Region.binds, otherFacts] at hp
          go_simp
          refine (c_impl_TreeCheck _ _ _ _ _ _ _ _ (zs ++ [1]) _ hsz (by omega) hOx26).mono ?_
          rintro e y ⟨rfl, hg⟩
          exact ⟨_, rfl, KP.of_grown hg hC.2, by rw [k2.out]; rfl⟩
        · simp [flowPreds, Region.binds, otherFacts] at hp
          go_simp
          exact ⟨KP.of_grown (gb_refl _ _) hC.2, rfl⟩
        · simp [flowPreds, Region.binds, otherFacts] at hp
          go_simp
          exact ⟨KP.of_grown (gb_refl _ _) hC.2, rfl⟩
        · simp [flowPreds, Region.binds, otherFacts] at hp
          go_simp
          exact ⟨KP.of_grown (gb_refl _ _) hC.2, rfl⟩
        · simp [flowPreds, Region.binds, otherFacts] at hp
          go_simp
          exact ⟨KP.of_grown (gb_refl _ _) hC.2, rfl⟩
        · simp [flowPreds, Region.binds, otherFacts] at hp
          go_simp
          exact ⟨KP.of_grown (gb_refl _ _) hC.2, rfl⟩
        · simp [flowPreds, Region.binds, otherFacts] at hp
          go_simp
          exact ⟨KP.of_grown (gb_refl _ _) hC.2, rfl⟩
        · simp [flowPreds, Region.binds, otherFacts] at hp
          go_simp
          exact ⟨KP.of_grown (gb_refl _ _) hC.2, rfl⟩
        · simp [flowPreds, Region.binds, otherFacts] at hp
          go_simp
          exact ⟨KP.of_grown (gb_refl _ _) hC.2, rfl⟩
        · simp [flowPreds, Region.binds, otherFacts] at hp
          go_simp
          exact ⟨KP.of_grown (gb_refl _ _) hC.2, rfl⟩
        · simp [flowPreds, Region.binds, otherFacts] at hp
          go_simp
          exact ⟨KP.of_grown (gb_refl _ _) hC.2, rfl⟩
        · simp [flowPreds, Region.binds, otherFacts] at hp
          go_simp
          exact ⟨KP.of_grown (gb_refl _ _) hC.2, rfl⟩
        · simp [flowPreds, Region.binds, otherFacts] at hp
          go_simp
          exact ⟨KP.of_grown (gb_refl _ _) hC.2, rfl⟩
        · simp [flowPreds, Region.binds, otherFacts] at hp
          go_simp
          exact ⟨KP.of_grown (gb_refl _ _) hC.2, rfl⟩
        · simp [flowPreds, Region.binds, otherFacts] at hp
          go_simp
          exact ⟨KP.of_grown (gb_refl _ _) hC.2, rfl⟩
        · have mp' := (hC.1.cell (p := ⟨g, p, none⟩) (Nat.lt_of_lt_of_le hg1' hsz15)).trans mp5
          simp [flowPreds, Region.binds, otherFacts] at hp
          go_simp
          exact ⟨KP.of_grown (gb_refl _ _) hC.2, rfl⟩
        · simp [flowPreds, Region.binds, otherFacts] at hp
          go_simp
          exact ⟨KP.of_grown (gb_refl _ _) hC.2, rfl⟩
        · simp [flowPreds, Region.binds, otherFacts] at hp
          go_simp
          exact ⟨KP.of_grown (gb_refl _ _) hC.2, rfl⟩
        · simp [flowPreds, Region.binds, otherFacts] at hp
          go_simp
          exact ⟨KP.of_grown (gb_refl _ _) hC.2, rfl⟩
        · simp [flowPreds, Region.binds, otherFacts] at hp
          go_simp
          exact ⟨KP.of_grown (gb_refl _ _) hC.2, rfl⟩
        · have hcc := hcc.out
          simp [flowPreds, Region.binds, otherFacts] at hp
          go_simp
          exact ⟨KP.of_grown (gb_refl _ _) hC.2, rfl⟩
        · have hOx48 := sl_below hO48 hC.1 (Nat.le_refl _)
          simp [flowPreds, Region.binds, otherFacts] at hp
          go_simp
          refine (c_impl_TreeCheck _ _ _ _ _ _ _ _ (zs.take (m2 - 1)) _ hsz (by omega) hOx48).mono ?_
          rintro e y ⟨rfl, hg⟩
          exact ⟨_, rfl, KP.of_grown hg hC.2, by rw [k3.out]; rfl⟩
        · simp [flowPreds, Region.binds, otherFacts] at hp
          go_simp
          exact ⟨KP.of_grown (gb_refl _ _) hC.2, rfl⟩
        · simp [flowPreds, Region.binds, otherFacts] at hp
          go_simp
          exact ⟨KP.of_grown (gb_refl _ _) hC.2, rfl⟩
        · simp [flowPreds, Region.binds, otherFacts] at hp
          go_simp
          exact ⟨KP.of_grown (gb_refl _ _) hC.2, rfl⟩
        · simp [flowPreds, Region.binds, otherFacts] at hp
          go_simp
          exact ⟨KP.of_grown (gb_refl _ _) hC.2, rfl⟩
      · intro n u x hn hC hp
        have e1 : u 52 = .bool true := hp 52 (by decide)
        go_simp
        go_wp2
        go_ret
        exact ⟨rfl, (gb_below hG5).trans (hC.1.mono hG5.size)⟩
end Go.Proofs.Ytocdgmmmegcnoaa.lawFnTreeProofOther
