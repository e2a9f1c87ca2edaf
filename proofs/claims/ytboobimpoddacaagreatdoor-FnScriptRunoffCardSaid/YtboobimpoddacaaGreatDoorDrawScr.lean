/-
  The draw of a script: some text, not long.
-/
import Derived.Test.YtboobimpoddacaaGreatDoorPackA
import Derived.Test.YtboobimpoddacaaGreatDoorDoorA
namespace Go.Proofs.YtboobimpoddacaaGreatDoor
open Go.RowKit
set_option linter.unusedVariables false

def shortStrB : Value → Bool
  | .string s => decide (s.size ≤ 12)
  | _ => false
theorem strs_of : ∀ {l : List Value}, l.all shortStrB = true → ∃ ss : List ByteArray, l = ss.map Value.string ∧ ∀ s ∈ ss, s.size ≤ 12
  | [], _ => ⟨[], rfl, by simp⟩
  | u :: l, h => by
    rw [List.all_cons, Bool.and_eq_true] at h
    obtain ⟨ss, rfl, hs⟩ := strs_of h.2
    have h1 := h.1
    cases u with
    | string s =>
      refine ⟨s :: ss, rfl, ?_⟩
      intro x hx
      rcases List.mem_cons.1 hx with rfl | hx
      · exact of_decide_eq_true h1
      · exact hs x hx
    | _ => cases h1
/-- A word drawn out of a written list. -/
theorem c_ofNew (R m n : Nat) (cs : Array Value) (w : World) (h : Rdr w R m) (hm : m ≤ 1000000) (hn : cs.size = n) (hn1 : 1 ≤ n) (hn2 : n ≤ 100) (hall : cs.toList.all shortStrB = true) :
    Calls Tryz.prog 31 #[.pointer (some ⟨R, 0, none⟩), .slice (some ⟨w.heap.size, 0, none⟩) n n] (w.alloc (.cells cs 9)) fun e w' =>
      ∃ s : ByteArray, s.size ≤ 12 ∧ e = .returned (.string s) ∧ Rdr w' R (m + 1) ∧ w.grownBy w' (some R) := by
  obtain ⟨ss, hss, hsz⟩ := strs_of hall
  have hga := gb_alloc (gb_refl w none) (.cells cs 9)
  have hS : Strs (w.alloc (.cells cs 9)) w.heap.size (some ⟨w.heap.size, 0, none⟩) n n ss := by
    have := Sl.own (own_of_blk (lo := w.heap.size) (size := 1) (n := n) (Blk.new w 9 cs) (by omega) (by omega) (Nat.le_refl _))
    unfold Strs
    rw [← hss]
    exact this
  refine (c_of R m w.heap.size _ n n ss _ (h.alloc _) hm hS h.lt hn1 (by omega)).mono ?_
  rintro e w' ⟨s, hs, rfl, hR, hg, _⟩
  exact ⟨s, hsz s hs, rfl, hR, gb_trans (gb_mono hga _) hg⟩

/-- What a drawn line is. -/
def LineDrawn (R m : Nat) (w : World) (e : Ending) (w' : World) : Prop := ∃ t : ByteArray, t.size ≤ 64 ∧ e = .returned (.string t) ∧ Rdr w' R (m + 3) ∧ w.grownBy w' (some R)

set_option maxHeartbeats 4000000 in
set_option maxRecDepth 100000 in
theorem c_l92Line (R m : Nat) (w : World) (h : Rdr w R m) (hm : m ≤ 900000) :
    Calls Tryz.prog 19 #[.pointer (some ⟨R, 0, none⟩)] w (LineDrawn R m w) := by
  go_enter Tryz.func19, Tryz.ntmps19
  go_wp2_with fail
  refine (c_pick _ _ _ _ h (by omega) (by omega) (by omega)).mono ?_
  rintro e w1 ⟨k, hk, rfl, hR1, hg1, hz1⟩
  clear hz1
  have hk' : (k = 0 ∨ k = 1 ∨ k = 2 ∨ k = 3) ∨ k = 4 ∨ k = 5 ∨ k = 6 ∨ k = 7 ∨ k = 8 ∨ k = 9 := by omega
  clear hk
  rcases hk' with hv | rfl | rfl | rfl | rfl | rfl | rfl
  · rcases hv with rfl | rfl | rfl | rfl
    all_goals
      go_wp2_with fail
      refine (c_ofNew R _ _ _ _ hR1 (by omega) (by rfl) (by omega) (by omega) (by decide)).mono ?_
      rintro e w2 ⟨s1, hs1, rfl, hR2, hg2⟩
      have hg12 := gb_trans hg1 hg2
      obtain ⟨T1, hT1⟩ : ∃ T, (⟨#[118, 111, 116, 101, 32]⟩ : ByteArray) ++ s1 = T := ⟨_, rfl⟩
      obtain ⟨T2, hT2⟩ : ∃ T, T1 ++ (⟨#[32]⟩ : ByteArray) = T := ⟨_, rfl⟩
      have l1 : (⟨#[118, 111, 116, 101, 32]⟩ : ByteArray).size = 5 := rfl
      have l2 : (⟨#[32]⟩ : ByteArray).size = 1 := rfl
      have y1 : T1.size = 5 + s1.size := by rw [← hT1, ByteArray.size_append, l1]
      have y2 : T2.size = T1.size + 1 := by rw [← hT2, ByteArray.size_append, l2]
      have a1 := add_str _ _ _ hT1 (by omega)
      have a2 := add_str _ _ _ hT2 (by omega)
      clear hT1 hT2 l1 l2 hg2 hR1
      go_wp2_with fail
      refine (c_ofNew R _ _ _ _ hR2 (by omega) (by rfl) (by omega) (by omega) (by decide)).mono ?_
      rintro e w3 ⟨s2, hs2, rfl, hR3, hg3⟩
      obtain ⟨T3, hT3⟩ : ∃ T, T2 ++ s2 = T := ⟨_, rfl⟩
      have y3 : T3.size = T2.size + s2.size := by rw [← hT3, ByteArray.size_append]
      have a3 := add_str _ _ _ hT3 (by omega)
      clear hT3
      go_wp2
      go_ret
      exact ⟨T3, by omega, rfl, hR3, gb_trans hg12 hg3⟩
  · go_wp2_with fail
    refine (c_ofNew R _ _ _ _ hR1 (by omega) (by rfl) (by omega) (by omega) (by decide)).mono ?_
    rintro e w2 ⟨s1, hs1, rfl, hR2, hg2⟩
    obtain ⟨T1, hT1⟩ : ∃ T, (⟨#[112, 108, 117, 114, 97, 108, 105, 116, 121, 32]⟩ : ByteArray) ++ s1 = T := ⟨_, rfl⟩
    have l1 : (⟨#[112, 108, 117, 114, 97, 108, 105, 116, 121, 32]⟩ : ByteArray).size = 10 := rfl
    have y1 : T1.size = 10 + s1.size := by rw [← hT1, ByteArray.size_append, l1]
    have a1 := add_str _ _ _ hT1 (by omega)
    clear hT1 l1
    go_wp2
    go_ret
    exact ⟨T1, by omega, rfl, hR2.mono (by omega), gb_trans hg1 hg2⟩
  · go_wp2_with fail
    refine (c_ofNew R _ _ _ _ hR1 (by omega) (by rfl) (by omega) (by omega) (by decide)).mono ?_
    rintro e w2 ⟨s1, hs1, rfl, hR2, hg2⟩
    obtain ⟨T1, hT1⟩ : ∃ T, (⟨#[114, 117, 110, 111, 102, 102, 32]⟩ : ByteArray) ++ s1 = T := ⟨_, rfl⟩
    have l1 : (⟨#[114, 117, 110, 111, 102, 102, 32]⟩ : ByteArray).size = 7 := rfl
    have y1 : T1.size = 7 + s1.size := by rw [← hT1, ByteArray.size_append, l1]
    have a1 := add_str _ _ _ hT1 (by omega)
    clear hT1 l1
    go_wp2
    go_ret
    exact ⟨T1, by omega, rfl, hR2.mono (by omega), gb_trans hg1 hg2⟩
  · go_wp2_with fail
    refine (c_ofNew R _ _ _ _ hR1 (by omega) (by rfl) (by omega) (by omega) (by decide)).mono ?_
    rintro e w2 ⟨s1, hs1, rfl, hR2, hg2⟩
    obtain ⟨T1, hT1⟩ : ∃ T, (⟨#[112, 97, 105, 114, 115, 32]⟩ : ByteArray) ++ s1 = T := ⟨_, rfl⟩
    have l1 : (⟨#[112, 97, 105, 114, 115, 32]⟩ : ByteArray).size = 6 := rfl
    have y1 : T1.size = 6 + s1.size := by rw [← hT1, ByteArray.size_append, l1]
    have a1 := add_str _ _ _ hT1 (by omega)
    clear hT1 l1
    go_wp2
    go_ret
    exact ⟨T1, by omega, rfl, hR2.mono (by omega), gb_trans hg1 hg2⟩
  · go_wp2_with fail
    refine (c_ofNew R _ _ _ _ hR1 (by omega) (by rfl) (by omega) (by omega) (by decide)).mono ?_
    rintro e w2 ⟨s1, hs1, rfl, hR2, hg2⟩
    obtain ⟨T1, hT1⟩ : ∃ T, (⟨#[114, 105, 115, 107, 32]⟩ : ByteArray) ++ s1 = T := ⟨_, rfl⟩
    have l1 : (⟨#[114, 105, 115, 107, 32]⟩ : ByteArray).size = 5 := rfl
    have y1 : T1.size = 5 + s1.size := by rw [← hT1, ByteArray.size_append, l1]
    have a1 := add_str _ _ _ hT1 (by omega)
    clear hT1 l1
    go_wp2
    go_ret
    exact ⟨T1, by omega, rfl, hR2.mono (by omega), gb_trans hg1 hg2⟩
  · go_wp2
    go_ret
    exact ⟨_, by decide, rfl, hR1.mono (by omega), hg1⟩
  · go_wp2_with fail
    refine (c_ofNew R _ _ _ _ hR1 (by omega) (by rfl) (by omega) (by omega) (by decide)).mono ?_
    rintro e w2 ⟨s1, hs1, rfl, hR2, hg2⟩
    go_wp2
    go_ret
    exact ⟨s1, by omega, rfl, hR2.mono (by omega), gb_trans hg1 hg2⟩

theorem halve {M K : Nat} (h : M * K ≤ 47) : M / 2 * (2 * K) ≤ 47 := by
  rw [← Nat.mul_assoc]
  exact Nat.le_trans (Nat.mul_le_mul_right K (Nat.div_mul_le_self M 2)) h
theorem mul_pos_le {M K : Nat} (hM : 0 < M) (h : M * K ≤ 47) : K ≤ 47 := Nat.le_trans (Nat.le_mul_of_pos_left K hM) h

set_option maxHeartbeats 1000000 in
theorem c_l6Many (s : ByteArray) (n : Nat) (w : World) (hs : s.size = 9) (hn : n ≤ 47) :
    Calls Tryz.prog 20 #[.string s, .int .i64 n] w fun e w' => ∃ t : ByteArray, t.size ≤ 1000 ∧ e = .returned (.string t) ∧ w = w' := by
  go_enter Tryz.func20, Tryz.ntmps20
  go_wp2
  go_loop [0, 1, 5] (fun sv nv ov => ∃ (M K : Nat) (x o : ByteArray), nv = .int .i64 (M : Int) ∧ sv = .string x ∧ ov = .string o ∧ x.size = 9 * K ∧ o.size ≤ 9 * K ∧ M * K ≤ 47 ∧ K ≤ 94 ∧ 1 ≤ K) (fun _ nv _ => (intOf nv).toNat)
  case atStart => exact ⟨n, 1, s, ⟨#[]⟩, rfl, rfl, rfl, by omega, by show (0 : Nat) ≤ _; omega, by omega, by omega, by omega⟩
  case round =>
    obtain ⟨M, K, x, o, rfl, rfl, rfl, hx, ho, hMK, hK, hK1⟩ := hrel
    by_cases h0 : 0 < M
    · have h0' : (0 : Int) < (M : Int) := by omega
      have hK2 := mul_pos_le h0 hMK
      have hHV := Lib.hid (halve hMK)
      have hM47 : M ≤ 47 := Nat.le_trans (Nat.le_mul_of_pos_right M hK1) hMK
      have HMK := Lib.hid hMK
      clear hMK
      obtain ⟨D, hD⟩ : ∃ X, x ++ x = X := ⟨_, rfl⟩
      obtain ⟨O, hO⟩ : ∃ X, o ++ x = X := ⟨_, rfl⟩
      have y1 : D.size = x.size + x.size := by rw [← hD, ByteArray.size_append]
      have y2 : O.size = o.size + x.size := by rw [← hO, ByteArray.size_append]
      have a1 := add_str _ _ _ hD (by omega)
      have a2 := add_str _ _ _ hO (by omega)
      have d1 : (M : Int).tdiv 2 = ((M / 2 : Nat) : Int) := by rw [Int.tdiv_eq_ediv_of_nonneg (by omega)]; rfl
      have d2 : (M : Int) / 2 = ((M / 2 : Nat) : Int) := rfl
      have d3 : (M : Int).tmod 2 = ((M % 2 : Nat) : Int) := by rw [Int.tmod_eq_emod_of_nonneg (by omega)]; rfl
      have d4 : (M : Int) % 2 = ((M % 2 : Nat) : Int) := rfl
      have hQ : M / 2 < M := by omega
      obtain ⟨Q, hQe⟩ : ∃ Q, M / 2 = Q := ⟨_, rfl⟩
      rw [hQe] at d1 d2 hHV hQ
      have d5 : IntKind.i64.wrap (Q : Int) = (Q : Int) := IntWalk.i64_in _ (by omega)
      clear hD hO hQe
      rcases (by omega : M % 2 = 0 ∨ M % 2 = 1) with hr | hr
      · rw [hr] at d3 d4
        have e3 : (M : Int).tmod 2 = 0 := d3
        have e4 : (M : Int) % 2 = 0 := d4
        clear d3 d4 hr
        go_wp2
        go_round
        case rel => exact ⟨Q, 2 * K, D, o, rfl, rfl, rfl, by omega, by omega, hHV.out, by omega, by omega⟩
        case measure => simp [intOf]; omega
      · rw [hr] at d3 d4
        have e3 : (M : Int).tmod 2 = 1 := d3
        have e4 : (M : Int) % 2 = 1 := d4
        clear d3 d4 hr
        go_wp2
        go_round
        case rel => exact ⟨Q, 2 * K, D, O, rfl, rfl, rfl, by omega, by omega, hHV.out, by omega, by omega⟩
        case measure => simp [intOf]; omega
    · have h0' : ¬ (0 : Int) < (M : Int) := by omega
      go_wp2
      go_ret
      exact ⟨o, by omega, rfl, rfl⟩

set_option maxHeartbeats 1000000 in
theorem c_DrawExecute (A : Option Addr) (len cap : Nat) (w : World) (h : CodeArg w A len cap) :
    Calls Tryz.prog 12 #[.slice A len cap] w fun e w' => ∃ t : ByteArray, t.size ≤ 3000 ∧ e = .returned (.string t) ∧ w.grownBy w' none := by
  go_enter Tryz.func12, Tryz.ntmps12
  go_wp2_with fail
  refine (c_l6Open _ _ _ _ h).mono ?_
  rintro e w1 ⟨rfl, hR1, hg1, hz1⟩
  obtain ⟨R, hR⟩ : ∃ R, w.heap.size = R := ⟨_, rfl⟩
  have HR := Lib.hid hR
  rw [hR] at hR1 hz1
  rw [hR]
  clear hR hz1
  go_wp2_with fail
  refine (c_pick _ _ _ _ hR1 (by omega) (by omega) (by omega)).mono ?_
  rintro e w2 ⟨n, hn, rfl, hR2, hg2, hz2⟩
  have hn13 : n ≤ 13 := by omega
  have hG2 : w.grownBy w2 none := gb_step hg1 hg2 (fun g e => by injection e with e; subst e; exact .inr (Nat.le_of_eq HR.out))
  clear hz2 hg1 hg2 hR1 hn
  go_wp2
  go_loopw [4, 6] (fun ov i wr => ∃ (k : Nat) (o : ByteArray), k ≤ n ∧ i = .int .i64 (k : Int) ∧ ov = .string o ∧ o.size ≤ 65 * k ∧ Rdr wr R (1 + 3 * k) ∧ w.grownBy wr none) (fun _ i _ => n - (intOf i).toNat)
  case atStart => exact ⟨0, ⟨#[]⟩, Nat.zero_le _, rfl, rfl, Nat.le_refl _, hR2, hG2⟩
  case round =>
    obtain ⟨k, o, hk, rfl, rfl, hos, hRr, hgr⟩ := hrel
    by_cases hlt : k < n
    · have hk' : (k : Int) < (n : Int) := by omega
      have hk0 : (0 : Int) ≤ (k : Int) := by omega
      go_wp2_with fail
      refine (c_l92Line R _ _ hRr (by omega)).mono ?_
      rintro e w3 ⟨t, ht, rfl, hR3, hg3⟩
      obtain ⟨T1, hT1⟩ : ∃ T, o ++ t = T := ⟨_, rfl⟩
      obtain ⟨T2, hT2⟩ : ∃ T, T1 ++ (⟨#[10]⟩ : ByteArray) = T := ⟨_, rfl⟩
      have l2 : (⟨#[10]⟩ : ByteArray).size = 1 := rfl
      have y1 : T1.size = o.size + t.size := by rw [← hT1, ByteArray.size_append]
      have y2 : T2.size = T1.size + 1 := by rw [← hT2, ByteArray.size_append, l2]
      have a1 := add_str _ _ _ hT1 (by omega)
      have a2 := add_str _ _ _ hT2 (by omega)
      have hG3 : w.grownBy w3 none := gb_step hgr hg3 (fun g e => by injection e with e; subst e; exact .inr (Nat.le_of_eq HR.out))
      clear hT1 hT2 l2 hg3
      go_wp2
      go_roundw
      case rel => exact ⟨k + 1, T2, by omega, by go_num, rfl, by omega, hR3.mono (by omega), hG3⟩
      case measure => simp [intOf]; omega
    · obtain rfl : k = n := by omega
      go_wp2_with fail
      refine (c_pick _ _ _ _ hRr (by omega) (by omega) (by omega)).mono ?_
      rintro e w3 ⟨p, hp, rfl, hR3, hg3, hz3⟩
      have hG3 : w.grownBy w3 none := gb_step hgr hg3 (fun g e => by injection e with e; subst e; exact .inr (Nat.le_of_eq HR.out))
      clear hz3 hg3 hRr hR2
      by_cases hp0 : p = 0
      · subst hp0
        go_wp2_with fail
        refine (c_pick _ _ _ _ hR3 (by omega) (by omega) (by omega)).mono ?_
        rintro e w4 ⟨q, hq, rfl, hR4, hg4, hz4⟩
        have hG4 : w.grownBy w4 none := gb_step hG3 hg4 (fun g e => by injection e with e; subst e; exact .inr (Nat.le_of_eq HR.out))
        have hq5 : q ≤ 5 := by omega
        have w1' : IntKind.i64.wrap (42 + (q : Int)) = ((42 + q : Nat) : Int) := by rw [IntWalk.i64_in _ (by omega)]; omega
        obtain ⟨C, hC⟩ : ∃ C, 42 + q = C := ⟨_, rfl⟩
        rw [hC] at w1'
        clear hz4 hg4 hR3 hq
        go_wp2_with fail
        refine (c_l6Many _ C _ rfl (by omega)).mono ?_
        rintro e w5 ⟨v, hv, rfl, rfl⟩
        obtain ⟨T1, hT1⟩ : ∃ T, o ++ v = T := ⟨_, rfl⟩
        have y1 : T1.size = o.size + v.size := by rw [← hT1, ByteArray.size_append]
        have a1 := add_str _ _ _ hT1 (by omega)
        clear hT1 hC w1'
        go_wp2_with fail
        refine (c_pick _ _ _ _ hR4 (by omega) (by omega) (by omega)).mono ?_
        rintro e w6 ⟨u, hu, rfl, hR6, hg6, hz6⟩
        have hG6 : w.grownBy w6 none := gb_step hG4 hg6 (fun g e => by injection e with e; subst e; exact .inr (Nat.le_of_eq HR.out))
        clear hz6 hg6 hR4
        by_cases hu0 : u = 0
        · subst hu0
          go_wp2_with fail
          refine (c_l92Line R _ _ hR6 (by omega)).mono ?_
          rintro e w7 ⟨t, ht, rfl, hR7, hg7⟩
          obtain ⟨T2, hT2⟩ : ∃ T, T1 ++ t = T := ⟨_, rfl⟩
          have y2 : T2.size = T1.size + t.size := by rw [← hT2, ByteArray.size_append]
          have a2 := add_str _ _ _ hT2 (by omega)
          have hG7 : w.grownBy w7 none := gb_step hG6 hg7 (fun g e => by injection e with e; subst e; exact .inr (Nat.le_of_eq HR.out))
          clear hT2
          go_wp2
          go_ret
          exact ⟨T2, by omega, rfl, hG7⟩
        · have hu0' : ¬ (u : Int) = 0 := by omega
          go_wp2
          go_ret
          exact ⟨T1, by omega, rfl, hG6⟩
      · have hp0' : ¬ (p : Int) = 0 := by omega
        go_wp2_with fail
        refine (c_pick _ _ _ _ hR3 (by omega) (by omega) (by omega)).mono ?_
        rintro e w6 ⟨u, hu, rfl, hR6, hg6, hz6⟩
        have hG6 : w.grownBy w6 none := gb_step hG3 hg6 (fun g e => by injection e with e; subst e; exact .inr (Nat.le_of_eq HR.out))
        clear hz6 hg6 hR3
        by_cases hu0 : u = 0
        · subst hu0
          go_wp2_with fail
          refine (c_l92Line R _ _ hR6 (by omega)).mono ?_
          rintro e w7 ⟨t, ht, rfl, hR7, hg7⟩
          obtain ⟨T2, hT2⟩ : ∃ T, o ++ t = T := ⟨_, rfl⟩
          have y2 : T2.size = o.size + t.size := by rw [← hT2, ByteArray.size_append]
          have a2 := add_str _ _ _ hT2 (by omega)
          have hG7 : w.grownBy w7 none := gb_step hG6 hg7 (fun g e => by injection e with e; subst e; exact .inr (Nat.le_of_eq HR.out))
          clear hT2
          go_wp2
          go_ret
          exact ⟨T2, by omega, rfl, hG7⟩
        · have hu0' : ¬ (u : Int) = 0 := by omega
          go_wp2
          go_ret
          exact ⟨o, by omega, rfl, hG6⟩
end Go.Proofs.YtboobimpoddacaaGreatDoor
