/-
  The best ones by comparison two by two: PairBest of the program and of the reference.
-/
import Derived.Test.YtboobimpoddacaaGreatDoorPaths
import Derived.Test.YtboobimpoddacaaGreatDoorPackA
namespace Go.Proofs.YtboobimpoddacaaGreatDoor
open Go.RowKit
set_option linter.unusedVariables false

def bestTo (P : Nat → Nat → Int) (n x : Nat) : List Int := ((List.range x).filter (isBest P n)).map (fun (k : Nat) => (k : Int))
theorem bestTo_yes {P : Nat → Nat → Int} {n x : Nat} (h : isBest P n x = true) : bestTo P n (x + 1) = bestTo P n x ++ [(x : Int)] := by
  unfold bestTo
  rw [List.range_succ, List.filter_append, List.map_append]
  simp [h]
theorem bestTo_no {P : Nat → Nat → Int} {n x : Nat} (h : isBest P n x = false) : bestTo P n (x + 1) = bestTo P n x := by
  unfold bestTo
  rw [List.range_succ, List.filter_append, List.map_append]
  simp [h]
theorem bestTo_len (P : Nat → Nat → Int) (n x : Nat) : (bestTo P n x).length ≤ x := by
  unfold bestTo
  rw [List.length_map]
  exact Nat.le_trans (List.length_filter_le _ _) (by simp)
theorem IRows.span {w w' : World} {lo hi L n cap : Nat} {A : Option Addr} {yss : List Row} (h : IRows w L A n cap yss) (hs : Span lo hi w w') (hl : hi ≤ L) : IRows w' L A n cap yss := by
  obtain ⟨ds, e, h1, h2⟩ := h
  exact ⟨ds, e, h1.span hs hl, fun k x y hx hy => Sl.span (h2 k x y hx hy) hs hl⟩
theorem span_step {wt wq w5 : World} {L : Nat} {o : Option Nat} (hS : Span 0 L wt wq) (hg : wq.grownBy w5 o) (hf : ∀ g, o = some g → g < L ∨ wt.heap.size ≤ g) : Span 0 L wt w5 :=
  ⟨hg.os.trans hS.os, hg.tape.trans hS.tape, hg.output.trans hS.output, Nat.le_trans hS.size hg.size, fun i hi hl => (hg.block i (Nat.lt_of_lt_of_le hi hS.size) (fun e => by have := hf i e.symm; omega)).trans (hS.block i hi hl)⟩
def bestAt (P : Nat → Nat → Int) (x y : Nat) : Bool := (List.range y).all fun j => decide (P j x ≤ P x j)
theorem bestAt_succ (P : Nat → Nat → Int) (x y : Nat) : bestAt P x (y + 1) = (bestAt P x y && decide (P y x ≤ P x y)) := by
  unfold bestAt
  rw [List.range_succ, List.all_append]
  simp

attribute [local go_sem] flowAct flowOp_def flowUpon
set_option maxHeartbeats 4000000 in
set_option maxRecDepth 100000 in
theorem c_impl_PairBest (lo : Nat) (A0 : Option Addr) (np cap N : Nat) (ps : List Pl) (w : World) (h : Piles w lo A0 np cap ps) (hs : ∀ p ∈ ps, p.1.size ≤ 2000000) (hfit : fitOK ps N = true) :
    Calls Tryz.prog 86 #[.slice A0 np cap, .int .i64 N] w fun e w' => ∃ A m c, e = .returned (.slice A m c) ∧ w.grownBy w' none ∧ w'.ownsRow w.heap.size 3 1 (.slice A m c) m ((bestL (paths (cnt ps) N) N).map (Value.int .i64)) := by
  have hN : 1 ≤ N ∧ N ≤ 5 := by have := (fit_many hfit).2.2; omega
  have Hs := Lib.hid hs
  have Hfit := Lib.hid hfit
  have hnn := Lib.hid (cnt_nn (fit_many hfit).1)
  obtain ⟨hN1, hN5⟩ := hN
  clear hs hfit
  go_enter Tryz.func86, Tryz.ntmps86
  go_wp2_with fail
  refine (c_pilesFit lo A0 np cap ps _ _ h Hs.out).mono ?_
  rintro e wb ⟨rfl, hgb⟩
  rw [Hfit.out]
  go_wp2_with fail
  refine (c_pairPaths lo A0 np cap N ps _ (h.keep0 hgb) Hs.out Hfit.out).mono ?_
  rintro e wt ⟨D, cD, rfl, hgt, hT⟩
  have hGt := gb_trans hgb hgt
  have hT := hT.mono (Nat.zero_le _)
  have hS0 : Span 0 0 wt wt := Span.refl _ _ _
  clear hgb hgt
  obtain ⟨P, hP⟩ : ∃ P, paths (cnt ps) N = P := ⟨_, rfl⟩
  rw [hP] at hT
  have HT := Lib.hid hT
  have HP := Lib.hid hP
  clear hT hP
  go_wp2
  go_loopw [6, 18] (fun v i wr => ∃ (x m : Nat) (A : Option Addr) (c : Nat), x ≤ N ∧ i = .int .i64 x ∧ m ≤ x ∧ v = .slice A m c ∧ w.grownBy wr none ∧ Span 0 (0) wt wr ∧ (∀ g, (Value.slice A m c).ownBlock = some g → g < (0) ∨ wt.heap.size ≤ g) ∧ wr.ownsRow w.heap.size 3 1 (.slice A m c) m ((bestTo P N x).map (Value.int .i64))) (fun _ i _ => N - (intOf i).toNat)
  case atStart => exact ⟨0, 0, none, 0, Nat.zero_le _, rfl, Nat.le_refl _, rfl, hGt, hS0, (fun g e => by simp [Value.ownBlock] at e), own_nil _ _ _ _⟩
  case round =>
    obtain ⟨x, m, A, c, hx, rfl, hmx, rfl, hG, hS, hfar, hown⟩ := hrel
    rename World => wr
    clear hGt hS0
    by_cases hlt : x < N
    · have hx' : (x : Int) < (N : Int) := by omega
      have hx0 : (0 : Int) ≤ (x : Int) := by omega
      go_wp2
      go_loopw [8, 22] (fun v i wq => ∃ (y : Nat) (B : Bool), y ≤ N ∧ i = .int .i64 y ∧ v = .bool B ∧ wr.grownBy wq none ∧ Hid (B = bestAt P x y)) (fun _ i _ => N - (intOf i).toNat)
      case atStart => exact ⟨0, true, Nat.zero_le _, rfl, rfl, gb_refl _ _, Lib.hid rfl⟩
      case round =>
        obtain ⟨y, B, hy, rfl, rfl, hgq, hB⟩ := hrel
        rename World => wq
        by_cases hylt : y < N
        · have hy' : (y : Int) < (N : Int) := by omega
          have hy0 : (0 : Int) ≤ (y : Int) := by omega
          have hst : Hid (bestAt P x (y + 1) = (B && decide (P y x ≤ P x y))) := Lib.hid (by rw [bestAt_succ, hB.out])
          clear hB
          cases B with
          | false =>
            go_wp2_with fail
            refine wp_known2 wq [.bool false, .bool false, undef, undef, undef, undef, undef, undef, undef, undef, undef, undef, undef, undef, undef, undef, undef, .bool false, .bool false] (gb_refl _ _) (by kernel_rfl) (by kernel_rfl) ?_ ?_
            · refine ⟨fun n u z hn hC hp hu => ?_, ?_, ?_, ?_, ?_, ?_, ?_, ?_, ?_, ?_, ?_, ?_, ?_, ?_, ?_, ?_, ?_, ?_, ?_, trivial⟩
              · have h18 : u 18 = .bool false := hu 18 _ rfl (by simp [flowPreds, Region.binds]) 8 rfl
                clear hu hp
                go_simp
                exact ⟨gb_refl _ _, rfl⟩
              all_goals
                intro n u z hn hC hp hu
                clear hu
                simp [flowPreds, Region.binds, fKnown] at hp
                go_simp
              all_goals try exact ⟨gb_refl _ _, rfl⟩
            · intro u z hC hp'
              have e1 : u 18 = .bool false := hp' 18 (by decide)
              go_simp
              go_wp2
              go_roundw
              case rel => exact ⟨y + 1, false, by omega, by go_num, rfl, gb_trans hgq hC, Lib.hid hst.out.symm⟩
              case measure => simp [intOf]; omega
          | true =>
            have hTr := HT.out.span (hS.trans (Span.of_gb hgq 0 (0))) (Nat.le_refl _)
            obtain ⟨b, off, bx, ox, cx, rfl, mx, hcx1, hcx2, cellx⟩ := hTr.tab_at hlt
            obtain ⟨b2, off2, by_, oy, cy, he, my, hcy1, hcy2, celly⟩ := hTr.tab_at hylt
            injection he with he
            injection he with he1 he2
            subst he1 he2
            have kxy := cellx y hylt
            have kyx := celly x hlt
            obtain ⟨vxy, evxy⟩ : ∃ v, P x y = v := ⟨_, rfl⟩
            obtain ⟨vyx, evyx⟩ : ∃ v, P y x = v := ⟨_, rfl⟩
            rw [evxy] at kxy hst
            rw [evyx] at kyx hst
            clear cellx celly evxy evyx hTr
            obtain ⟨V, hV⟩ : ∃ V, decide (vyx ≤ vxy) = V := ⟨_, rfl⟩
            rw [hV] at hst
            go_wp2_with fail
            refine wp_known2 wq [.bool true, .bool true, .slice (some ⟨b, off, none⟩) N cD, .int .i64 x, .pointer (some ⟨b, off + x, none⟩), .slice (some ⟨bx, ox, none⟩) N cx, .int .i64 y, .pointer (some ⟨bx, ox + y, none⟩), .int .i64 vxy, .slice (some ⟨b, off, none⟩) N cD, .int .i64 y, .pointer (some ⟨b, off + y, none⟩), .slice (some ⟨by_, oy, none⟩) N cy, .int .i64 x, .pointer (some ⟨by_, oy + x, none⟩), .int .i64 vyx, .bool V, .bool V, .bool V] (gb_refl _ _) (by kernel_rfl) (by kernel_rfl) ?_ ?_
            · refine ⟨fun n u z hn hC hp hu => ?_, ?_, ?_, ?_, ?_, ?_, ?_, ?_, ?_, ?_, ?_, ?_, ?_, ?_, ?_, ?_, ?_, ?_, ?_, trivial⟩
              · have h18 : u 18 = .bool true := hu 18 _ rfl (by simp [flowPreds, Region.binds]) 8 rfl
                clear hu hp
                go_simp
                exact ⟨gb_refl _ _, rfl⟩
              all_goals
                intro n u z hn hC hp hu
                clear hu
                simp [flowPreds, Region.binds, fKnown] at hp
                have n0 := gb_cell hC mx (by simp)
                have n1 := gb_cell hC my (by simp)
                have n2 := gb_cell hC kxy (by simp)
                have n3 := gb_cell hC kyx (by simp)
                go_simp
              all_goals try exact ⟨gb_refl _ _, rfl⟩
            · intro u z hC hp'
              have e1 : u 18 = .bool V := hp' 18 (by decide)
              clear hV
              go_simp
              go_wp2
              go_roundw
              case rel => exact ⟨y + 1, V, by omega, by go_num, rfl, gb_trans hgq hC, Lib.hid hst.out.symm⟩
              case measure => simp [intOf]; omega
        · obtain rfl : N = y := by omega
          have hBf : Hid (isBest P N x = B) := Lib.hid (by rw [hB.out]; rfl)
          have hG2 := gb_trans hG hgq
          have hS2 := hS.trans (Span.of_gb hgq 0 (0))
          have hown2 := own_below hown hgq
          clear hB hG hS hown
          cases B with
          | false =>
            have hno := Lib.hid (bestTo_no hBf.out)
            go_wp2
            go_roundw
            case rel => exact ⟨x + 1, m, A, c, by omega, by go_num, by omega, rfl, hG2, hS2, hfar, by rw [hno.out]; exact hown2⟩
            case measure => simp [intOf]; omega
          | true =>
            have hyes := Lib.hid (bestTo_yes hBf.out)
            have hsz2 := hG2.size
            go_wp2_with (at_builtin; refine wpList_app intE rfl _ _ rfl w.heap.size m _ _ rfl hown2 [_] rfl rfl (by simp [Value.oneCell']) (by omega) (by omega) hsz2 ?_; intro A' c' w5 hown5 hb5 hg5 hat5)
            have hG5 := gb_of_below ((gb_below hG2).trans hb5) none
            have hS5 := span_step hS2 hg5 hfar
            have hfar5 : ∀ g, (Value.slice A' (m + 1) c').ownBlock = some g → g < (0) ∨ wt.heap.size ≤ g := fun g e => by
              rcases hat5 with e2 | ⟨b, e2, hb⟩
              · exact hfar g (e2.symm.trans e)
              · rw [e2] at e
                injection e with e
                have := hS2.size
                exact .inr (by omega)
            go_roundw
            case rel => exact ⟨x + 1, m + 1, A', c', by omega, by go_num, by omega, rfl, hG5, hS5, hfar5, by rw [hyes.out, List.map_append]; exact hown5⟩
            case measure => simp [intOf]; omega
    · obtain rfl : N = x := by omega
      have he : bestTo P N N = bestL (paths (cnt ps) N) N := by rw [HP.out]; rfl
      rw [he] at hown
      go_wp2
      go_ret
      exact ⟨_, _, _, rfl, hG, hown⟩

attribute [local go_sem] flowAct flowOp_def flowUpon
set_option maxHeartbeats 4000000 in
set_option maxRecDepth 100000 in
theorem c_spec_PairBest (lo : Nat) (A0 : Option Addr) (np cap N : Nat) (ps : List Pl) (w : World) (h : Piles w lo A0 np cap ps) (hs : ∀ p ∈ ps, p.1.size ≤ 2000000) (hfit : fitOK ps N = true) :
    Calls Tryz.prog 108 #[.slice A0 np cap, .int .i64 N] w fun e w' => ∃ A m c, e = .returned (.slice A m c) ∧ w.grownBy w' none ∧ w'.ownsRow w.heap.size 3 1 (.slice A m c) m ((bestL (paths (cnt ps) N) N).map (Value.int .i64)) := by
  have hN : 1 ≤ N ∧ N ≤ 5 := by have := (fit_many hfit).2.2; omega
  have Hs := Lib.hid hs
  have Hfit := Lib.hid hfit
  have hnn := Lib.hid (cnt_nn (fit_many hfit).1)
  obtain ⟨hN1, hN5⟩ := hN
  clear hs hfit
  go_enter Tryz.func108, Tryz.ntmps108
  have hga := gb_alloc (gb_refl w none) (.cells #[] 3)
  go_wp2_with fail
  refine (c_l3Fits lo A0 np cap ps _ _ (h.keep0 hga) Hs.out).mono ?_
  rintro e wb ⟨rfl, hgb⟩
  rw [Hfit.out]
  have hGb := gb_trans hga hgb
  go_wp2_with fail
  refine (c_l13Counts lo A0 np cap N ps _ (h.keep0 hGb) Hs.out Hfit.out).mono ?_
  rintro e wc ⟨D, cD, rfl, hgc, hD⟩
  go_wp2_with fail
  refine (c_l13Paths wb.heap.size D N cD (cnt ps) wc hD hnn.out hN1 hN5).mono ?_
  rintro e wt ⟨E, cE, rfl, hgt, hT⟩
  have hO0 : wt.ownsRow w.heap.size 3 1 (.slice (some ⟨w.heap.size, 0, none⟩) 0 0) 0 [] := own_below (own_empty w _ _ _ (Nat.le_refl _)) (gb_trans hgb (gb_trans hgc hgt))
  have hGt := gb_trans hGb (gb_trans hgc hgt)
  have hT := hT.mono (show w.heap.size + 1 ≤ wc.heap.size from by have h1 := hgb.size; have h2 := hgc.size; have h3 : (w.alloc (.cells #[] 3)).heap.size = w.heap.size + 1 := (by simp); omega)
  have hS0 : Span 0 (w.heap.size + 1) wt wt := Span.refl _ _ _
  clear hgb hgc hgt hD hga hGb
  obtain ⟨P, hP⟩ : ∃ P, paths (cnt ps) N = P := ⟨_, rfl⟩
  rw [hP] at hT
  have HT := Lib.hid hT
  have HP := Lib.hid hP
  clear hT hP
  go_wp2
  go_loopw [5, 7] (fun v i wr => ∃ (x m : Nat) (A : Option Addr) (c : Nat), x ≤ N ∧ i = .int .i64 x ∧ m ≤ x ∧ v = .slice A m c ∧ w.grownBy wr none ∧ Span 0 (w.heap.size + 1) wt wr ∧ (∀ g, (Value.slice A m c).ownBlock = some g → g < (w.heap.size + 1) ∨ wt.heap.size ≤ g) ∧ wr.ownsRow w.heap.size 3 1 (.slice A m c) m ((bestTo P N x).map (Value.int .i64))) (fun _ i _ => N - (intOf i).toNat)
  case atStart => exact ⟨0, 0, _, _, Nat.zero_le _, rfl, Nat.le_refl _, rfl, hGt, hS0, (fun g e => by simp [Value.ownBlock] at e; exact .inl (by omega)), hO0⟩
  case round =>
    obtain ⟨x, m, A, c, hx, rfl, hmx, rfl, hG, hS, hfar, hown⟩ := hrel
    rename World => wr
    clear hGt hS0
    by_cases hlt : x < N
    · have hx' : (x : Int) < (N : Int) := by omega
      have hx0 : (0 : Int) ≤ (x : Int) := by omega
      go_wp2
      go_loopw [8, 9] (fun v i wq => ∃ (y : Nat) (B : Bool), y ≤ N ∧ i = .int .i64 y ∧ v = .bool B ∧ wr.grownBy wq none ∧ Hid (B = bestAt P x y)) (fun _ i _ => N - (intOf i).toNat)
      case atStart => exact ⟨0, true, Nat.zero_le _, rfl, rfl, gb_refl _ _, Lib.hid rfl⟩
      case round =>
        obtain ⟨y, B, hy, rfl, rfl, hgq, hB⟩ := hrel
        rename World => wq
        by_cases hylt : y < N
        · have hy' : (y : Int) < (N : Int) := by omega
          have hy0 : (0 : Int) ≤ (y : Int) := by omega
          have hst : Hid (bestAt P x (y + 1) = (B && decide (P y x ≤ P x y))) := Lib.hid (by rw [bestAt_succ, hB.out])
          clear hB
          cases B with
          | false =>
            go_wp2_with fail
            refine wp_known2 wq [.bool false, .bool false, undef, undef, undef, undef, undef, undef, undef, undef, undef, undef, undef, undef, undef, undef, undef, .bool false, .bool false] (gb_refl _ _) (by kernel_rfl) (by kernel_rfl) ?_ ?_
            · refine ⟨fun n u z hn hC hp hu => ?_, ?_, ?_, ?_, ?_, ?_, ?_, ?_, ?_, ?_, ?_, ?_, ?_, ?_, ?_, ?_, ?_, ?_, ?_, trivial⟩
              · have h18 : u 18 = .bool false := hu 18 _ rfl (by simp [flowPreds, Region.binds]) 8 rfl
                clear hu hp
                go_simp
                exact ⟨gb_refl _ _, rfl⟩
              all_goals
                intro n u z hn hC hp hu
                clear hu
                simp [flowPreds, Region.binds, fKnown] at hp
                go_simp
              all_goals try exact ⟨gb_refl _ _, rfl⟩
            · intro u z hC hp'
              have e1 : u 18 = .bool false := hp' 18 (by decide)
              go_simp
              go_wp2
              go_roundw
              case rel => exact ⟨y + 1, false, by omega, by go_num, rfl, gb_trans hgq hC, Lib.hid hst.out.symm⟩
              case measure => simp [intOf]; omega
          | true =>
            have hTr := HT.out.span (hS.trans (Span.of_gb hgq 0 (w.heap.size + 1))) (Nat.le_refl _)
            obtain ⟨b, off, bx, ox, cx, rfl, mx, hcx1, hcx2, cellx⟩ := hTr.tab_at hlt
            obtain ⟨b2, off2, by_, oy, cy, he, my, hcy1, hcy2, celly⟩ := hTr.tab_at hylt
            injection he with he
            injection he with he1 he2
            subst he1 he2
            have kxy := cellx y hylt
            have kyx := celly x hlt
            obtain ⟨vxy, evxy⟩ : ∃ v, P x y = v := ⟨_, rfl⟩
            obtain ⟨vyx, evyx⟩ : ∃ v, P y x = v := ⟨_, rfl⟩
            rw [evxy] at kxy hst
            rw [evyx] at kyx hst
            clear cellx celly evxy evyx hTr
            obtain ⟨V, hV⟩ : ∃ V, decide (vyx ≤ vxy) = V := ⟨_, rfl⟩
            rw [hV] at hst
            go_wp2_with fail
            refine wp_known2 wq [.bool true, .bool true, .slice (some ⟨b, off, none⟩) N cE, .int .i64 x, .pointer (some ⟨b, off + x, none⟩), .slice (some ⟨bx, ox, none⟩) N cx, .int .i64 y, .pointer (some ⟨bx, ox + y, none⟩), .int .i64 vxy, .slice (some ⟨b, off, none⟩) N cE, .int .i64 y, .pointer (some ⟨b, off + y, none⟩), .slice (some ⟨by_, oy, none⟩) N cy, .int .i64 x, .pointer (some ⟨by_, oy + x, none⟩), .int .i64 vyx, .bool V, .bool V, .bool V] (gb_refl _ _) (by kernel_rfl) (by kernel_rfl) ?_ ?_
            · refine ⟨fun n u z hn hC hp hu => ?_, ?_, ?_, ?_, ?_, ?_, ?_, ?_, ?_, ?_, ?_, ?_, ?_, ?_, ?_, ?_, ?_, ?_, ?_, trivial⟩
              · have h18 : u 18 = .bool true := hu 18 _ rfl (by simp [flowPreds, Region.binds]) 8 rfl
                clear hu hp
                go_simp
                exact ⟨gb_refl _ _, rfl⟩
              all_goals
                intro n u z hn hC hp hu
                clear hu
                simp [flowPreds, Region.binds, fKnown] at hp
                have n0 := gb_cell hC mx (by simp)
                have n1 := gb_cell hC my (by simp)
                have n2 := gb_cell hC kxy (by simp)
                have n3 := gb_cell hC kyx (by simp)
                go_simp
              all_goals try exact ⟨gb_refl _ _, rfl⟩
            · intro u z hC hp'
              have e1 : u 18 = .bool V := hp' 18 (by decide)
              clear hV
              go_simp
              go_wp2
              go_roundw
              case rel => exact ⟨y + 1, V, by omega, by go_num, rfl, gb_trans hgq hC, Lib.hid hst.out.symm⟩
              case measure => simp [intOf]; omega
        · obtain rfl : N = y := by omega
          have hBf : Hid (isBest P N x = B) := Lib.hid (by rw [hB.out]; rfl)
          have hG2 := gb_trans hG hgq
          have hS2 := hS.trans (Span.of_gb hgq 0 (w.heap.size + 1))
          have hown2 := own_below hown hgq
          clear hB hG hS hown
          cases B with
          | false =>
            have hno := Lib.hid (bestTo_no hBf.out)
            go_wp2
            go_roundw
            case rel => exact ⟨x + 1, m, A, c, by omega, by go_num, by omega, rfl, hG2, hS2, hfar, by rw [hno.out]; exact hown2⟩
            case measure => simp [intOf]; omega
          | true =>
            have hyes := Lib.hid (bestTo_yes hBf.out)
            have hsz2 := hG2.size
            go_wp2_with (at_builtin; refine wpList_app intE rfl _ _ rfl w.heap.size m _ _ rfl hown2 [_] rfl rfl (by simp [Value.oneCell']) (by omega) (by omega) hsz2 ?_; intro A' c' w5 hown5 hb5 hg5 hat5)
            have hG5 := gb_of_below ((gb_below hG2).trans hb5) none
            have hS5 := span_step hS2 hg5 hfar
            have hfar5 : ∀ g, (Value.slice A' (m + 1) c').ownBlock = some g → g < (w.heap.size + 1) ∨ wt.heap.size ≤ g := fun g e => by
              rcases hat5 with e2 | ⟨b, e2, hb⟩
              · exact hfar g (e2.symm.trans e)
              · rw [e2] at e
                injection e with e
                have := hS2.size
                exact .inr (by omega)
            go_roundw
            case rel => exact ⟨x + 1, m + 1, A', c', by omega, by go_num, by omega, rfl, hG5, hS5, hfar5, by rw [hyes.out, List.map_append]; exact hown5⟩
            case measure => simp [intOf]; omega
    · obtain rfl : N = x := by omega
      have he : bestTo P N N = bestL (paths (cnt ps) N) N := by rw [HP.out]; rfl
      rw [he] at hown
      go_wp2
      go_ret
      exact ⟨_, _, _, rfl, hG, hown⟩
end Go.Proofs.YtboobimpoddacaaGreatDoor
