/-
  A drawn ballot: spec.l91Ballot.
-/
import Derived.Test.YtipnalfkpalieaaDoorFacts
import Derived.Test.YtipnalfkpalieaaDoorText
namespace Go.Proofs.YtipnalfkpalieaaDoor
open Go.RowKit
set_option linter.unusedVariables false

def smallInt (u : Value) : Prop := ∃ n : Int, -1 ≤ n ∧ n ≤ 5 ∧ u = .int .i64 n

/-- What a drawn ballot is: at most ten small numbers, in new memory. -/
def BallotRes (R m : Nat) (w : World) (e : Ending) (w' : World) : Prop :=
  ∃ (A : Option Addr) (c : Nat) (xs : List Int), e = .returned (.slice A xs.length c) ∧ w'.ownsRow w.heap.size 3 1 (.slice A xs.length c) xs.length (xs.map (Value.int .i64)) ∧
    (∀ z ∈ xs, -1 ≤ z ∧ z ≤ 5) ∧ xs.length ≤ 10 ∧ Rdr w' R (m + 30) ∧ w.grownBy w' (some R) ∧ w.heap.size ≤ w'.heap.size

def ballotFacts (R : Nat) (v : Value) (g : Nat) (x0 : Int) : Nat → Value → World → Prop
  | 0 | 1 => fIs v
  | 2 => fIs (.pointer (some ⟨g, 0, none⟩))
  | 3 => fIs (.int .i64 x0)
  | 4 => fRow R 3 3 #[.int .i64 x0, .int .i64 (-1), .int .i64 5]
  | 5 => fIs (.pointer (some ⟨R, 0, none⟩))
  | 6 => fPick 3
  | 7 => fPlace R smallInt
  | 8 => fVal smallInt
  | 9 => fOne R 3 smallInt
  | _ => fun _ _ => True

theorem ballotFacts_kept (R : Nat) (v0 : Value) (g : Nat) (x0 : Int) (n m K : Nat) (x y : World) (h : RT R m K n x y) : ∀ i v, ballotFacts R v0 g x0 i v x → ballotFacts R v0 g x0 i v y := by
  intro i v hv
  unfold ballotFacts at *
  split at hv
  all_goals first
    | exact hv
    | exact fRow_kept h.1 hv
    | exact fPlace_kept h.1 hv
    | exact fOne_kept h.1 hv

attribute [local go_sem] flowAct flowOp_def flowUpon

theorem own_head {w : World} {lo e n c : Nat} {A : Option Addr} {z : Int} {xs : List Int} (h : w.ownsRow lo e 1 (.slice A n c) n ((z :: xs).map (Value.int .i64))) :
    ∃ g, A = some ⟨g, 0, none⟩ ∧ lo ≤ g ∧ g < w.heap.size ∧ w.cell? ⟨g, 0, none⟩ = some (.int .i64 z) := by
  have hl := h.1
  rcases h.2 with ⟨h1, h2⟩ | ⟨g, cap, cur, h1, hg, hh, hn, hc, hs, ht⟩
  · subst h2; simp at hl
  · injection h1 with h1 h2 h3
    subst h1
    refine ⟨g, rfl, hg, Blk.lt hh, ?_⟩
    have := h.cells (g := g) rfl 0 (.int .i64 z) (by simp)
    simpa [Addr.add] using this

theorem own_cell0 {w : World} {lo e n c g : Nat} {z : Int} {xs : List Int} (h : w.ownsRow lo e 1 (.slice (some ⟨g, 0, none⟩) n c) n ((z :: xs).map (Value.int .i64))) : w.cell? ⟨g, 0, none⟩ = some (.int .i64 z) := by
  obtain ⟨g', e, _, _, hc⟩ := own_head h
  injection e with e
  injection e with e
  subst e
  exact hc

theorem BallotRes.of {R m q c : Nat} {w w' : World} {A : Option Addr} {xs : List Int} (hq : xs.length = q) (ho : w'.ownsRow w.heap.size 3 1 (.slice A q c) q (xs.map (Value.int .i64)))
    (hall : ∀ z ∈ xs, -1 ≤ z ∧ z ≤ 5) (hlen : q ≤ 10) (hR : Rdr w' R (m + 30)) (hG : w.grownBy w' (some R)) : BallotRes R m w (.returned (.slice A q c)) w' := by
  subst hq
  exact ⟨A, c, xs, rfl, ho, hall, hlen, hR, hG, hG.size⟩

theorem small3 {z0 : Int} (h0 : -1 ≤ z0) (h1 : z0 ≤ 5) : ∀ u ∈ (#[.int .i64 z0, .int .i64 (-1), .int .i64 5] : Array Value).toList, smallInt u := by
  intro u hu
  simp at hu
  rcases hu with rfl | rfl | rfl
  · exact ⟨z0, h0, h1, rfl⟩
  · exact ⟨-1, by omega, by omega, rfl⟩
  · exact ⟨5, by omega, by omega, rfl⟩

set_option maxHeartbeats 2000000 in
theorem c_l91Ballot (R m : Nat) (n : Int) (w : World) (h : Rdr w R m) (hm : m ≤ 900000) (hn : 1 ≤ n) (hn' : n ≤ 5) :
    Calls Tryd.prog 93 #[.pointer (some ⟨R, 0, none⟩), .int .i64 n] w (BallotRes R m w) := by
  have hRlt := h.lt
  go_enter Tryd.func93, Tryd.ntmps93
  go_wp2_with fail
  refine (c_pick R m _ _ (h.alloc _) (by omega) (by omega) (by omega)).mono ?_
  rintro e w1 ⟨mm, hmm, rfl, hR1, hg1, hz1⟩
  have hG1 : w.grownBy w1 (some R) := gb_trans (gb_alloc (gb_refl w (some R)) _) hg1
  have hO1 : w1.ownsRow w.heap.size 3 1 (.slice (some ⟨w.heap.size, 0, none⟩) 0 0) 0 (([] : List Int).map (Value.int .i64)) :=
    own_kept (own_empty w w.heap.size 3 1 (Nat.le_refl _)) hg1 (fun k e => by injection e with e; omega)
  clear hz1
  go_wp2
  go_loopw [5, 7] (fun v i wr => ∃ (k : Nat) (A : Option Addr) (c : Nat) (xs : List Int), k ≤ 9 ∧ i = .int .i64 k ∧ v = .slice A xs.length c ∧ wr.ownsRow w.heap.size 3 1 (.slice A xs.length c) xs.length (xs.map (Value.int .i64)) ∧
    Hid (∀ z ∈ xs, -1 ≤ z ∧ z ≤ 5) ∧ xs.length ≤ k ∧ Rdr wr R (m + 1 + k) ∧ w.grownBy wr (some R) ∧ w.heap.size ≤ wr.heap.size) (fun _ i _ => 9 - (intOf i).toNat)
  case atStart => exact ⟨0, _, _, [], Nat.zero_le _, rfl, rfl, hO1, Lib.hid (by simp), Nat.le_refl _, hR1, hG1, hG1.size⟩
  case round =>
    obtain ⟨k, A, c, xs, hk, rfl, rfl, hown, hall, hxk, hR, hG, hlo⟩ := hrel
    by_cases hgo : k < 9 ∧ xs.length < mm
    · obtain ⟨hlt, hlen⟩ := hgo
      · go_wp2_with fail
        refine (c_pick R (m + 1 + k) _ _ hR (by omega) (by omega) (by omega)).mono ?_
        rintro e w2 ⟨z, hz, rfl, hR2, hg2, hz2⟩
        have hown2 := own_kept hown hg2 (fun k e => by injection e with e; omega)
        have hG2 := gb_trans hG hg2
        have hlo2 : w.heap.size ≤ w2.heap.size := hG2.size
        clear hz2
        go_wp2_with fail
        refine (c_l1Has w.heap.size A xs.length c xs _ w2 (Sl.own hown2)).mono ?_
        rintro e w' ⟨rfl, rfl⟩
        by_cases hin : (z : Int) ∈ xs
        · have hd : decide ((z : Int) ∈ xs) = true := by simpa using hin
          clear hin
          go_wp2
          go_roundw
          case rel => exact ⟨k + 1, A, c, xs, by omega, by go_num, rfl, hown2, hall, by omega, hR2.mono (by omega), hG2, hlo2⟩
          case measure => simp [intOf]; omega
        · have hd : decide ((z : Int) ∈ xs) = false := by simpa using hin
          clear hin
          go_wp2_with (at_builtin; refine wpList_app intE rfl _ _ rfl w.heap.size xs.length _ _ rfl hown2 [_] rfl rfl (by simp [Value.oneCell']) (by omega) (by omega) hlo2 ?_; intro A' c' w3 hown3 hb3 hg3 hat3)
          have hz5 : (z : Int) ≤ 5 := by omega
          go_roundw
          case rel => exact ⟨k + 1, A', c', xs ++ [(z : Int)], by omega, by go_num, by simp, by rw [List.length_append, List.map_append]; exact hown3, Lib.hid (by
            intro y hy
            rcases List.mem_append.1 hy with hy | hy
            · exact hall.out y hy
            · simp at hy; omega), by simp; omega, (hR2.grown hg3 (fun g hg => by have := (hown2.lt g hg).1; omega)).mono (by omega), gb_step hG2 hg3 (fun g hg => .inr (hown2.lt g hg).1), Nat.le_trans hlo2 hb3.size⟩
          case measure => simp [intOf]; omega
    · cases xs with
      | nil =>
        by_cases hlt : k < 9
        all_goals
          have hmm0 : ¬ (k < 9 ∧ 0 < mm) := hgo
          go_wp2
          go_ret
          exact BallotRes.of (xs := []) rfl hown (by simp) (by omega) (hR.mono (by omega)) hG
      | cons z0 zs =>
        obtain ⟨g, rfl, hg0, hg1', hcell⟩ := own_head hown
        have hzb := hall.out z0 (by simp)
        obtain ⟨hz0', hz1'⟩ := hzb
        obtain ⟨q, hq⟩ : ∃ q, zs.length + 1 = q := ⟨_, rfl⟩
        have hgo' : ¬ (k < 9 ∧ q < mm) := by rw [← hq]; exact hgo
        have hown' : wr.ownsRow w.heap.size 3 1 (.slice (some ⟨g, 0, none⟩) q c) q ((z0 :: zs).map (Value.int .i64)) := by rw [← hq]; exact hown
        have hxk' : q ≤ k := by rw [← hq]; exact hxk
        have hq0 : 0 < q := by omega
        have Hq : Hid ((z0 :: zs).length = q) := Lib.hid hq
        clear hown hgo hxk
        have hslot : (Value.slice (some ⟨g, 0, none⟩) (z0 :: zs).length c) = .slice (some ⟨g, 0, none⟩) q c := by rw [Hq.out]
        rw [hslot]
        clear hslot hq
        by_cases hlt : k < 9
        all_goals
          go_wp2_with fail
          refine (c_pick R (m + 1 + k) _ _ hR (by omega) (by omega) (by omega)).mono ?_
          rintro e w2 ⟨z, hz, rfl, hR2, hg2, hz2⟩
          have hown2 := own_kept hown' hg2 (fun k e => by injection e with e; omega)
          have hG2 := gb_trans hG hg2
          have hlo2 : w.heap.size ≤ w2.heap.size := hG2.size
          clear hz2
          by_cases hz0 : z = 0
          · subst hz0
            have pick : ∀ (n : Nat) (x : World) (q : Int), 1 ≤ q → q ≤ 3 → n < 10 → RC w2 (some R) R (m + 1 + k + 1) 1 n x →
                Calls Tryd.prog 63 #[.pointer (some ⟨R, 0, none⟩), .int .i64 q] x (fun e y => ∃ v, e = .returned v ∧ RT R (m + 1 + k + 1) 1 n x y ∧ fPick 3 v y) := by
              intro n x q h1 h2 hn hC
              refine (c_pick _ _ _ _ hC.rdr (by omega) (by omega) (by omega)).mono ?_
              rintro e y ⟨k, hk, rfl, hR', hg', hz'⟩
              exact ⟨_, rfl, ⟨hg', hR'.mono (by omega)⟩, k, by omega, rfl⟩
            have ownC : ∀ (n : Nat) (x : World), RC w2 (some R) R (m + 1 + k + 1) 1 n x → x.ownsRow w.heap.size 3 1 (.slice (some ⟨g, 0, none⟩) q c) q ((z0 :: zs).map (Value.int .i64)) :=
              fun n x hC => own_kept hown2 hC.1 (fun k e => by injection e with e; omega)
            go_wp2_with fail
            refine wp_flow_tail [_, _, _, _, _, _, _, _, _, _] _ rfl (by kernel_rfl) (by kernel_rfl) (by kernel_rfl) (RC w2 (some R) R (m + 1 + k + 1) 1) (RT R (m + 1 + k + 1) 1) (ballotFacts R (.slice (some ⟨g, 0, none⟩) q c) g z0) (RC.start (gb_refl _ _) hR2 _) (fun n x y => RC.next (.inl rfl)) (fun n x y hT _ => ballotFacts_kept R _ _ _ n _ 1 x y hT) ?_ ?_
            · refine ⟨fun n u x hn hC hp => ?_, fun n u x hn hC hp => ?_, fun n u x hn hC hp => ?_, fun n u x hn hC hp => ?_, fun n u x hn hC hp => ?_, fun n u x hn hC hp => ?_, fun n u x hn hC hp => ?_, fun n u x hn hC hp => ?_, fun n u x hn hC hp => ?_, fun n u x hn hC hp => ?_, trivial⟩
              · go_simp
                exact ⟨hC.same, rfl⟩
              · go_simp
                exact ⟨hC.same, rfl⟩
              · have e1 := (show fIs _ (u 1) x from hp 1 (by decide))
                have e1' : u 1 = .slice (some ⟨g, 0, none⟩) q c := e1
                go_simp
                exact ⟨hC.same, rfl⟩
              · have e1 : u 2 = .pointer (some ⟨g, 0, none⟩) := (show fIs _ (u 2) x from hp 2 (by decide))
                have hcx := own_cell0 (ownC _ _ hC)
                go_simp
                exact ⟨hC.same, rfl⟩
              · have e1 : u 3 = .int .i64 z0 := (show fIs _ (u 3) x from hp 3 (by decide))
                go_simp
                exact ⟨hC.alloc _, _, rfl, hC.rdr.lt, Blk.new _ _ _⟩
              · go_simp
                exact ⟨hC.same, rfl⟩
              · have e1 : u 5 = .pointer (some ⟨R, 0, none⟩) := (show fIs _ (u 5) x from hp 5 (by decide))
                go_simp
                exact pick n x _ (by decide) (by decide) (Nat.lt_of_lt_of_le hn (by decide)) hC
              · obtain ⟨g4, e4, hg4, hb4⟩ := (show fRow R _ _ _ (u 4) x from hp 4 (by decide))
                obtain ⟨k6, hk6, e6⟩ := (show fPick 3 (u 6) x from hp 6 (by decide))
                have hk' : (k6 : Int) < 3 := by omega
                go_simp
                obtain ⟨v7, hv7, hp7⟩ := rowCell (p := smallInt) hb4 (small3 hz0' hz1') (k := k6) hk6
                exact ⟨hC.same, g4, k6, rfl, hg4, v7, hv7, hp7⟩
              · obtain ⟨g7, k7, e7, hg7, v7, hv7, y, hy1, hy2, rfl⟩ := (show fPlace R smallInt (u 7) x from hp 7 (by decide))
                go_simp
                exact ⟨hC.same, y, hy1, hy2, rfl⟩
              · obtain ⟨y, hy1, hy2, e8⟩ := (show fVal smallInt (u 8) x from hp 8 (by decide))
                go_simp
                exact ⟨hC.alloc _, _, _, rfl, hC.rdr.lt, Blk.new _ _ _, y, hy1, hy2, rfl⟩
            · intro n u x hn hC hp
              have e0 : u 0 = .slice (some ⟨g, 0, none⟩) q c := (show fIs _ (u 0) x from hp 0 (by decide))
              obtain ⟨g9, v9, e9, hg9, hb9, y, hy1, hy2, rfl⟩ := (show fOne R _ smallInt (u 9) x from hp 9 (by decide))
              have hox := ownC _ _ hC
              have hlox : w.heap.size ≤ x.heap.size := Nat.le_trans hlo2 hC.2.1
              have hGx : w.grownBy x (some R) := gb_trans hG2 hC.1
              have hRx := hC.rdr
              have hnn : n ≤ 12 := Nat.le_trans hn (by decide)
              go_simp
              go_wp2_with (at_builtin; refine wpList_appB intE rfl _ _ rfl w.heap.size q _ _ rfl hox g9 [_] rfl hb9 rfl (by simp [Value.oneCell']) (by omega) (by omega) hlox ?_; intro A' c' w3 hown3 hb3 hg3 hat3)
              go_ret
              exact BallotRes.of (xs := (z0 :: zs) ++ [y]) (by rw [List.length_append, Hq.out]; rfl) (by rw [List.map_append]; exact hown3) (by
                intro t ht
                rcases List.mem_append.1 ht with ht | ht
                · exact hall.out t ht
                · simp at ht; omega) (by omega) ((hRx.grown hg3 (fun g hg => by have := (hox.lt g hg).1; omega)).mono (by omega)) (gb_step hGx hg3 (fun g hg => .inr (hox.lt g hg).1))
          · have hzz : ((z : Int) == 0) = false := by simp; omega
            go_wp2
            go_ret
            exact BallotRes.of Hq.out hown2 hall.out (by omega) (hR2.mono (by omega)) hG2
end Go.Proofs.YtipnalfkpalieaaDoor
