/-
  The least ones who beat all others: OnesCount, beatsOthers, PairTop, PairWinner of the program.
-/
import Derived.Test.YtipnalfkpalieaaContest
namespace Go.Proofs.Ytipnalfkpalieaa
open Go.RowKit
set_option linter.unusedVariables false

/-- Whether a set has x. -/
def sb (set x : Nat) : Int := bits .and .i64 ((set : Int) / 2 ^ x) 1
def sbAll : Bool := (List.range 32).all fun s => (List.range 5).all fun x => decide (sb s x = ((s / 2 ^ x % 2 : Nat) : Int))
theorem sbAll_true : sbAll = true := by decide +kernel
theorem sb_eq {s x : Nat} (hs : s < 32) (hx : x < 5) : sb s x = ((s / 2 ^ x % 2 : Nat) : Int) := by
  have h := sbAll_true
  unfold sbAll at h
  have h1 := List.all_eq_true.1 h s (List.mem_range.2 hs)
  have h2 := List.all_eq_true.1 h1 x (List.mem_range.2 hx)
  simpa using h2
theorem sb_01 {s x : Nat} (hs : s < 32) (hx : x < 5) : sb s x = 0 ∨ sb s x = 1 := by
  rw [sb_eq hs hx]
  omega
theorem sb_full {n x : Nat} (hn : n ≤ 5) (hx : x < n) : sb (2 ^ n - 1) x = 1 := by
  have key : ((List.range 6).all fun n => (List.range n).all fun x => decide (sb (2 ^ n - 1) x = 1)) = true := by decide +kernel
  have h1 := List.all_eq_true.1 key n (List.mem_range.2 (by omega))
  have h2 := List.all_eq_true.1 h1 x (List.mem_range.2 hx)
  simpa using h2
/-- Each one of a set beats each one who is not in it. -/
def Beats (C : Nat → Nat → Int) (n set : Nat) : Prop := ∀ x y, x < n → y < n → sb set x = 1 → sb set y = 0 → C y x < C x y
theorem beats_full (C : Nat → Nat → Int) {n : Nat} (hn : n ≤ 5) : Beats C n (2 ^ n - 1) := fun x y hx hy _ h2 => by
  rw [sb_full hn hy] at h2
  cases h2
def topTo (best x : Nat) : List Int := ((List.range x).filter (fun k => decide (sb best k = 1))).map (fun (k : Nat) => (k : Int))
theorem topTo_yes {best x : Nat} (h : sb best x = 1) : topTo best (x + 1) = topTo best x ++ [(x : Int)] := by
  unfold topTo
  rw [List.range_succ, List.filter_append, List.map_append]
  simp [h]
theorem topTo_no {best x : Nat} (h : ¬ sb best x = 1) : topTo best (x + 1) = topTo best x := by
  unfold topTo
  rw [List.range_succ, List.filter_append, List.map_append]
  simp [h]
/-- A single one beats all others. -/
theorem top_one {C : Nat → Nat → Int} {n best : Nat} {z : Int} (hn : n ≤ 5) (hb : best < 32) (h : Beats C n best) (ht : topTo best n = [z]) : ∃ w : Nat, z = (w : Int) ∧ w < n ∧ ∀ y, y < n → y ≠ w → C y w < C w y := by
  have hz : z ∈ topTo best n := by rw [ht]; simp
  unfold topTo at hz
  obtain ⟨w, hw, rfl⟩ := List.mem_map.1 hz
  obtain ⟨hw1, hw2⟩ := List.mem_filter.1 hw
  have hwn := List.mem_range.1 hw1
  refine ⟨w, rfl, hwn, fun y hy hyw => ?_⟩
  refine h w y hwn hy (by simpa using hw2) ?_
  rcases sb_01 hb (show y < 5 by omega) with h0 | h1
  · exact h0
  · exfalso
    have : (y : Int) ∈ topTo best n := by
      unfold topTo
      exact List.mem_map.2 ⟨y, List.mem_filter.2 ⟨List.mem_range.2 hy, by simpa using h1⟩, rfl⟩
    rw [ht] at this
    have := List.mem_singleton.1 this
    omega

set_option maxHeartbeats 1000000 in
theorem c_OnesCount (x : Int) (w : World) (h0 : 0 ≤ x) (h1 : x < 32) :
    Calls Try.prog 63 #[.int .u64 x] w fun e w' => ∃ k : Int, e = .returned (.int .i64 k) ∧ w = w' := by
  go_enter Try.func63, Try.ntmps63
  go_wp2
  go_ret
  exact ⟨_, rfl, rfl⟩
attribute [local go_sem] flowAct flowOp_def flowUpon
set_option maxHeartbeats 4000000 in
set_option maxRecDepth 100000 in
theorem c_beatsOthers (lo : Nat) (D : Option Addr) (N cD set : Nat) (C : Nat → Nat → Int) (w : World) (h : IRows w lo D N cD (tabOf N C)) (hN1 : 1 ≤ N) (hN5 : N ≤ 5) (hset : set < 32) :
    Calls Try.prog 64 #[.slice D N cD, .int .i64 set] w fun e w' => ∃ B : Bool, e = .returned (.bool B) ∧ w.grownBy w' none ∧ (B = true → Beats C N set) := by
  have hlc := h.le
  have hcm := h.max
  have HD := Lib.hid h
  clear h
  go_enter Try.func64, Try.ntmps64
  go_wp2
  go_loopw [9] (fun i wr => ∃ x : Nat, x ≤ N ∧ i = .int .i64 x ∧ w.grownBy wr none ∧ Hid (∀ x' y', x' < x → y' < N → sb set x' = 1 → sb set y' = 0 → C y' x' < C x' y')) (fun i _ => N - (intOf i).toNat)
  case atStart => exact ⟨0, Nat.zero_le _, rfl, gb_refl _ _, Lib.hid (fun x' y' hx => absurd hx (by omega))⟩
  case round =>
    obtain ⟨x, hx, rfl, hG, hpre⟩ := hrel
    rename World => wr
    by_cases hlt : x < N
    · have hx' : (x : Int) < (N : Int) := by omega
      have hx0 : (0 : Int) ≤ (x : Int) := by omega
      go_wp2
      go_loopw [14] (fun i wq => ∃ y : Nat, y ≤ N ∧ i = .int .i64 y ∧ w.grownBy wq none ∧ Hid (∀ y', y' < y → sb set x = 1 → sb set y' = 0 → C y' x < C x y')) (fun i _ => N - (intOf i).toNat)
      case atStart => exact ⟨0, Nat.zero_le _, rfl, hG, Lib.hid (fun y' hy => absurd hy (by omega))⟩
      case round =>
        obtain ⟨y, hy, rfl, hGq, hpy⟩ := hrel
        rename World => wq
        by_cases hylt : y < N
        · have hy' : (y : Int) < (N : Int) := by omega
          have hy0 : (0 : Int) ≤ (y : Int) := by omega
          have hDq := HD.out.keep0 hGq
          obtain ⟨b, off, bx, ox, cx, rfl, mx, hcx1, hcx2, cellx⟩ := hDq.tab_at hlt
          obtain ⟨b2, off2, by_, oy, cy, he, my, hcy1, hcy2, celly⟩ := hDq.tab_at hylt
          injection he with he
          injection he with he1 he2
          subst he1 he2
          have kxy := cellx y hylt
          have kyx := celly x hlt
          have hsx := sb_01 hset (show x < 5 by omega)
          have hsy := sb_01 hset (show y < 5 by omega)
          obtain ⟨px, epx⟩ : ∃ p, sb set x = p := ⟨_, rfl⟩
          obtain ⟨py, epy⟩ : ∃ p, sb set y = p := ⟨_, rfl⟩
          have Hpx := Lib.hid epx
          have Hpy := Lib.hid epy
          rw [epx] at hsx
          rw [epy] at hsy
          have fx : bits .and .i64 ((set : Int) / 2 ^ x) 1 = px := epx
          have fy : bits .and .i64 ((set : Int) / 2 ^ y) 1 = py := epy
          clear epx epy
          obtain ⟨vxy, evxy⟩ : ∃ v, C x y = v := ⟨_, rfl⟩
          obtain ⟨vyx, evyx⟩ : ∃ v, C y x = v := ⟨_, rfl⟩
          have Hv := Lib.hid (And.intro evxy evyx)
          rw [evxy] at kxy
          rw [evyx] at kyx
          clear cellx celly evxy evyx hDq
          rcases hsx with rfl | rfl
          · have hst : Hid (∀ y', y' < y + 1 → sb set x = 1 → sb set y' = 0 → C y' x < C x y') := Lib.hid (fun y' _ h2 _ => by rw [Hpx.out] at h2; cases h2)
            clear hpy
            go_wp2_with fail
            refine wp_known wq [.int .i64 set, .int .i64 x, .int .i64 ((set : Int) / 2 ^ x), .int .i64 0, .bool false, .bool false, undef, undef, undef, undef, undef, .bool false, .bool false, undef, undef, undef, undef, undef, undef, undef, undef, undef, undef, undef, undef, undef, undef, undef, .bool false] (gb_refl _ _) (by kernel_rfl) (by kernel_rfl) ?_ ?_
            · refine ⟨?_, ?_, ?_, ?_, ?_, ?_, ?_, ?_, ?_, ?_, ?_, ?_, ?_, ?_, ?_, ?_, ?_, ?_, ?_, ?_, ?_, ?_, ?_, ?_, ?_, ?_, ?_, ?_, ?_, trivial⟩
              all_goals
                intro nn u z hn hC hp
                simp [flowPreds, Region.binds, fKnown] at hp
                go_simp
              all_goals try exact ⟨gb_refl _ _, rfl⟩
            · intro u z hC hp'
              have e1 : u 28 = .bool false := hp' 28 (by decide)
              go_simp
              go_wp2
              go_roundw
              case rel => exact ⟨y + 1, by omega, by go_num, gb_trans hGq hC, hst⟩
              case measure => simp [intOf]; omega
          rcases hsy with rfl | rfl
          · obtain ⟨V, hV⟩ : ∃ V, decide (vxy ≤ vyx) = V := ⟨_, rfl⟩
            have HV := Lib.hid hV
            go_wp2_with fail
            refine wp_known wq [.int .i64 set, .int .i64 x, .int .i64 ((set : Int) / 2 ^ x), .int .i64 1, .bool true, .bool true, .int .i64 set, .int .i64 y, .int .i64 ((set : Int) / 2 ^ y), .int .i64 0, .bool true, .bool true, .bool true, .slice (some ⟨b, off, none⟩) N cD, .int .i64 x, .pointer (some ⟨b, off + x, none⟩), .slice (some ⟨bx, ox, none⟩) N cx, .int .i64 y, .pointer (some ⟨bx, ox + y, none⟩), .int .i64 vxy, .slice (some ⟨b, off, none⟩) N cD, .int .i64 y, .pointer (some ⟨b, off + y, none⟩), .slice (some ⟨by_, oy, none⟩) N cy, .int .i64 x, .pointer (some ⟨by_, oy + x, none⟩), .int .i64 vyx, .bool V, .bool V] (gb_refl _ _) (by kernel_rfl) (by kernel_rfl) ?_ ?_
            · refine ⟨?_, ?_, ?_, ?_, ?_, ?_, ?_, ?_, ?_, ?_, ?_, ?_, ?_, ?_, ?_, ?_, ?_, ?_, ?_, ?_, ?_, ?_, ?_, ?_, ?_, ?_, ?_, ?_, ?_, trivial⟩
              all_goals
                intro nn u z hn hC hp
                simp [flowPreds, Region.binds, fKnown] at hp
                have n0 := gb_cell hC mx (by simp)
                have n1 := gb_cell hC my (by simp)
                have n2 := gb_cell hC kxy (by simp)
                have n3 := gb_cell hC kyx (by simp)
                go_simp
              all_goals try exact ⟨gb_refl _ _, rfl⟩
            · intro u z hC hp'
              have e1 : u 28 = .bool V := hp' 28 (by decide)
              clear hV
              cases V with
              | true =>
                go_simp
                go_wp2
                go_ret
                exact ⟨false, rfl, gb_trans hGq hC, fun e => by cases e⟩
              | false =>
                have hst : Hid (∀ y', y' < y + 1 → sb set x = 1 → sb set y' = 0 → C y' x < C x y') := Lib.hid (fun y' h1 h2 h3 => by
                  rcases Nat.lt_or_ge y' y with h5 | h5
                  · exact hpy.out y' h5 h2 h3
                  · obtain rfl : y' = y := by omega
                    have h6 := of_decide_eq_false HV.out
                    rw [Hv.out.1, Hv.out.2]
                    omega)
                clear hpy
                go_simp
                go_wp2
                go_roundw
                case rel => exact ⟨y + 1, by omega, by go_num, gb_trans hGq hC, hst⟩
                case measure => simp [intOf]; omega
          · have hst : Hid (∀ y', y' < y + 1 → sb set x = 1 → sb set y' = 0 → C y' x < C x y') := Lib.hid (fun y' h1 h2 h3 => by
              rcases Nat.lt_or_ge y' y with h5 | h5
              · exact hpy.out y' h5 h2 h3
              · obtain rfl : y' = y := by omega
                rw [Hpy.out] at h3
                cases h3)
            clear hpy
            go_wp2_with fail
            refine wp_known wq [.int .i64 set, .int .i64 x, .int .i64 ((set : Int) / 2 ^ x), .int .i64 1, .bool true, .bool true, .int .i64 set, .int .i64 y, .int .i64 ((set : Int) / 2 ^ y), .int .i64 1, .bool false, .bool false, .bool false, undef, undef, undef, undef, undef, undef, undef, undef, undef, undef, undef, undef, undef, undef, undef, .bool false] (gb_refl _ _) (by kernel_rfl) (by kernel_rfl) ?_ ?_
            · refine ⟨?_, ?_, ?_, ?_, ?_, ?_, ?_, ?_, ?_, ?_, ?_, ?_, ?_, ?_, ?_, ?_, ?_, ?_, ?_, ?_, ?_, ?_, ?_, ?_, ?_, ?_, ?_, ?_, ?_, trivial⟩
              all_goals
                intro nn u z hn hC hp
                simp [flowPreds, Region.binds, fKnown] at hp
                go_simp
              all_goals try exact ⟨gb_refl _ _, rfl⟩
            · intro u z hC hp'
              have e1 : u 28 = .bool false := hp' 28 (by decide)
              go_simp
              go_wp2
              go_roundw
              case rel => exact ⟨y + 1, by omega, by go_num, gb_trans hGq hC, hst⟩
              case measure => simp [intOf]; omega
        · obtain rfl : N = y := by omega
          have hnew : Hid (∀ x' y', x' < x + 1 → y' < N → sb set x' = 1 → sb set y' = 0 → C y' x' < C x' y') := Lib.hid (fun x' y' h1 h2 h3 h4 => by
            rcases Nat.lt_or_ge x' x with h5 | h5
            · exact hpre.out x' y' h5 h2 h3 h4
            · obtain rfl : x' = x := by omega
              exact hpy.out y' h2 h3 h4)
          clear hpy hpre
          go_wp2
          go_roundw
          case rel => exact ⟨x + 1, by omega, by go_num, hGq, hnew⟩
          case measure => simp [intOf]; omega
    · obtain rfl : N = x := by omega
      have hB : Hid (Beats C N set) := Lib.hid (fun x y hx hy => hpre.out x y hx hy)
      go_wp2
      go_ret
      exact ⟨true, rfl, hG, fun _ => hB.out⟩

set_option maxHeartbeats 4000000 in
set_option maxRecDepth 100000 in
theorem c_PairTop (lo : Nat) (A0 : Option Addr) (np cap N M : Nat) (ps : List Pl) (w : World) (h : Piles w lo A0 np cap ps) (hs : ∀ p ∈ ps, p.1.size ≤ 2000000) (hfit : fitOK ps N = true) (hM : M = 2 ^ N) :
    Calls Try.prog 47 #[.slice A0 np cap, .int .i64 N] w fun e w' => ∃ A m c best, e = .returned (.slice A m c) ∧ w.grownBy w' none ∧ w'.ownsRow w.heap.size 3 1 (.slice A m c) m ((topTo best N).map (Value.int .i64)) ∧ best < 32 ∧ Beats (cnt ps) N best := by
  have hN : 1 ≤ N ∧ N ≤ 5 := by have := (fit_many hfit).2.2; omega
  have Hs := Lib.hid hs
  have Hfit := Lib.hid hfit
  obtain ⟨hN1, hN5⟩ := hN
  have hM32 : M ≤ 32 := by rw [hM]; exact Nat.le_trans (Nat.pow_le_pow_right (by omega) hN5) (by decide)
  have hM1 : 1 ≤ M := by rw [hM]; exact Nat.one_le_two_pow
  have hbf := Lib.hid (beats_full (cnt ps) hN5)
  rw [← hM] at hbf
  have hMi : ((M : Nat) : Int) = 2 ^ N := by rw [hM]; simp
  have s1 : (2 : Int) ^ N = (M : Int) := hMi.symm
  have s2 : IntKind.i64.wrap (M : Int) = (M : Int) := IntWalk.i64_in _ (by omega)
  have s3 : IntKind.i64.wrap ((M : Int) - 1) = (M : Int) - 1 := IntWalk.i64_in _ (by omega)
  clear hs hfit hMi hM
  go_enter Try.func47, Try.ntmps47
  go_wp2_with fail
  refine (c_pilesFit lo A0 np cap ps _ _ h Hs.out).mono ?_
  rintro e w1 ⟨rfl, hg1⟩
  rw [Hfit.out]
  go_wp2_with fail
  refine (c_pairCounts lo A0 np cap N ps _ (h.keep0 hg1) Hs.out Hfit.out).mono ?_
  rintro e w2 ⟨D, rfl, hg2, hD⟩
  have hG2 := gb_trans hg1 hg2
  have hb0 : ((M : Int) - 1) = ((M - 1 : Nat) : Int) := by omega
  have HD := Lib.hid hD
  clear hD hg1 hg2
  go_wp2
  go_loopw [6, 7] (fun b i wr => ∃ (set best : Nat), 1 ≤ set ∧ set ≤ M ∧ i = .int .i64 set ∧ b = .int .i64 best ∧ best < 32 ∧ w2.grownBy wr none ∧ Hid (Beats (cnt ps) N best)) (fun _ i _ => M - (intOf i).toNat)
  case atStart => exact ⟨1, M - 1, Nat.le_refl _, hM1, rfl, by first | rfl | (congr 1), by omega, gb_refl _ _, hbf⟩
  case round =>
    obtain ⟨set, best, hs1, hsM, rfl, rfl, hbest, hG, hB⟩ := hrel
    rename World => wr
    by_cases hlt : set < M
    · have hlt' : (set : Int) < (M : Int) := by omega
      have hu1 : IntKind.u64.wrap (set : Int) = (set : Int) := by rw [IntKind.wrap_u64]; omega
      have hu2 : IntKind.u64.wrap (best : Int) = (best : Int) := by rw [IntKind.wrap_u64]; omega
      go_wp2_with fail
      refine (c_OnesCount (set : Int) _ (by omega) (by omega)).mono ?_
      rintro e w3 ⟨k1, rfl, rfl⟩
      go_wp2_with fail
      refine (c_OnesCount (best : Int) _ (by omega) (by omega)).mono ?_
      rintro e w3 ⟨k2, rfl, rfl⟩
      by_cases hk : k1 < k2
      · go_wp2_with fail
        refine (c_beatsOthers _ D N N set (cnt ps) _ (HD.out.keep0 hG) hN1 hN5 (by omega)).mono ?_
        rintro e w3 ⟨B, rfl, hg3, hBe⟩
        have hG3 := gb_trans hG hg3
        have HBe := Lib.hid hBe
        clear hG hg3 hBe
        cases B with
        | true =>
          go_wp2
          go_roundw
          case rel => exact ⟨set + 1, set, by omega, by omega, by go_num, rfl, by omega, hG3, Lib.hid (HBe.out (by first | rfl | trivial))⟩
          case measure => simp [intOf]; omega
        | false =>
          go_wp2
          go_roundw
          case rel => exact ⟨set + 1, best, by omega, by omega, by go_num, rfl, hbest, hG3, hB⟩
          case measure => simp [intOf]; omega
      · go_wp2
        go_roundw
        case rel => exact ⟨set + 1, best, by omega, by omega, by go_num, rfl, hbest, hG, hB⟩
        case measure => simp [intOf]; omega
    · obtain rfl : M = set := by omega
      have hG3 := gb_trans hG2 hG
      clear hbf
      go_wp2
      go_loopw [8, 40] (fun v i wq => ∃ (x m : Nat) (A : Option Addr) (c : Nat), x ≤ N ∧ i = .int .i64 x ∧ m ≤ x ∧ v = .slice A m c ∧ w.grownBy wq none ∧ wq.ownsRow w.heap.size 3 1 (.slice A m c) m ((topTo best x).map (Value.int .i64))) (fun _ i _ => N - (intOf i).toNat)
      case atStart => exact ⟨0, 0, none, 0, Nat.zero_le _, rfl, Nat.le_refl _, rfl, hG3, own_nil _ _ _ _⟩
      case round =>
        obtain ⟨x, m, A, c, hx, rfl, hmx, rfl, hGq, hown⟩ := hrel
        rename World => wq
        by_cases hxlt : x < N
        · have hx' : (x : Int) < (N : Int) := by omega
          have hx0 : (0 : Int) ≤ (x : Int) := by omega
          have hsx := sb_01 hbest (show x < 5 by omega)
          obtain ⟨p, ep⟩ : ∃ p, sb best x = p := ⟨_, rfl⟩
          rw [ep] at hsx
          have Hp := Lib.hid ep
          have fx : bits .and .i64 ((best : Int) / 2 ^ x) 1 = p := ep
          have hsz := hGq.size
          clear ep
          rcases hsx with rfl | rfl
          · have hno := Lib.hid (topTo_no (best := best) (x := x) (by rw [Hp.out]; simp))
            go_wp2
            go_roundw
            case rel => exact ⟨x + 1, m, A, c, by omega, by go_num, by omega, rfl, hGq, by rw [hno.out]; exact hown⟩
            case measure => simp [intOf]; omega
          · have hyes := Lib.hid (topTo_yes (best := best) (x := x) Hp.out)
            go_wp2_with (at_builtin; refine wpList_app intE rfl _ _ rfl w.heap.size m _ _ rfl hown [_] rfl rfl (by simp [Value.oneCell']) (by omega) (by omega) hsz ?_; intro A' c' w5 hown5 hb5 hg5 hat5)
            have hG5 := gb_of_below ((gb_below hGq).trans hb5) none
            go_roundw
            case rel => exact ⟨x + 1, m + 1, A', c', by omega, by go_num, by omega, rfl, hG5, by rw [hyes.out, List.map_append]; exact hown5⟩
            case measure => simp [intOf]; omega
        · obtain rfl : N = x := by omega
          go_wp2
          go_ret
          exact ⟨_, _, _, best, rfl, hGq, hown, hbest, hB.out⟩

theorem c_PairWinner (lo : Nat) (A0 : Option Addr) (np cap N : Nat) (ps : List Pl) (w : World) (h : Piles w lo A0 np cap ps) (hs : ∀ p ∈ ps, p.1.size ≤ 2000000) (hfit : fitOK ps N = true) :
    Calls Try.prog 27 #[.slice A0 np cap, .int .i64 N] w fun e w' => ∃ v : Int, e = .returned (.int .i64 v) ∧ w.grownBy w' none ∧ (v = -1 ∨ ∃ k : Nat, v = (k : Int) ∧ k < N ∧ ∀ y, y < N → y ≠ k → cnt ps y k < cnt ps k y) := by
  have hN := (fit_many hfit).2.2
  have hN5 : N ≤ 5 := by omega
  have hcall := c_PairTop lo A0 np cap N (2 ^ N) ps w h hs hfit rfl
  have Hc := Lib.hid hcall
  clear hcall hs hfit hN
  go_enter Try.func27, Try.ntmps27
  go_wp2_with fail
  refine Hc.out.mono ?_
  rintro e w1 ⟨A, m, c, best, rfl, hg1, hA, hb, hB⟩
  by_cases hm : m = 1
  · subst hm
    have hI : Ints w1 w.heap.size A 1 c (topTo best N) := Sl.own hA
    obtain ⟨b, off, z, rfl, hz, hcell⟩ := Ints.at_ hI (show 0 < 1 by omega)
    rw [Nat.add_zero] at hcell
    have hone : topTo best N = [z] := by
      have hl := hI.len
      cases ht : topTo best N with
      | nil => rw [ht] at hl; simp at hl
      | cons a l =>
        rw [ht] at hl
        have h1 := hz.out
        rw [ht] at h1
        simp at hl h1
        rw [hl, h1]
    have hfin := Lib.hid (top_one hN5 hb hB hone)
    clear hz hone hA hI
    go_wp2
    go_ret
    exact ⟨z, rfl, hg1, .inr hfin.out⟩
  · have hmb : ((m : Int) == 1) = false := by simp; omega
    go_wp2
    go_ret
    exact ⟨-1, rfl, hg1, .inl rfl⟩
end Go.Proofs.Ytipnalfkpalieaa
