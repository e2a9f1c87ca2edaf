/-
  Drawn leaves: spec.l93Leaves, spec.DrawTreeRoot.
-/
import Derived.Test.YtocdgmmmegcnoaaDrawBallot
import Derived.Test.YtocdgmmmegcnoaaDrawNode
import Derived.Test.YtocdgmmmegcnoaaTo
namespace Go.Proofs.Ytocdgmmmegcnoaa
open Go.RowKit
set_option linter.unusedVariables false

/-- A row of the call's own starts its block. -/
theorem own_addr {w : World} {lo e size n c : Nat} {A : Option Addr} {xs : List Value} (h : w.ownsRow lo e size (.slice A n c) n xs) (hn : 0 < n) : ∃ g, A = some ⟨g, 0, none⟩ ∧ lo ≤ g ∧ g < w.heap.size := by
  rcases h.2 with ⟨h1, h2⟩ | ⟨g, cap, cur, h1, hg, hh, _⟩
  · omega
  · injection h1 with h1
    exact ⟨g, h1, hg, Blk.lt hh⟩

theorem _root_.Go.World.ownsRow.base {w : World} {lo lo' e size n : Nat} {v : Value} {xs : List Value} (h : w.ownsRow lo e size v n xs) (hl : lo' ≤ lo) : w.ownsRow lo' e size v n xs := by
  rcases h with ⟨h1, h2⟩
  rcases h2 with h2 | ⟨g, cap, cur, h3, hg, h4⟩
  · exact ⟨h1, .inl h2⟩
  · exact ⟨h1, .inr ⟨g, cap, cur, h3, Nat.le_trans hl hg, h4⟩⟩

section
variable {P : Program} {t e : TypeId} {size bytes : Nat} {z : Value} {ops : Array Oper} {rest : List Oper} {o : Oper} {a : Act} {Q : Exit → Act → World → Prop} {w : World}
/-- append of all elements of a slice. -/
theorem wpList_appS (E : Elem P t e size bytes z) (hgd : o.guard = none) (s x : Operand) (ho : o.op = .call { callee := .builtin .append, args := #[s, x], argTypes := #[t, t] })
    (lo n : Nat) (v : Value) (xs : List Value) (hs : a.eval s = v) (hown : w.ownsRow lo e size v n xs) (b off m c : Nat) (us : List Value) (hx : a.eval x = .slice (some ⟨b, off, none⟩) m c)
    (hcell : ∀ j u, us[j]? = some u → w.cell? ⟨b, off + j, none⟩ = some u) (hul : us.length = m * size)
    (hone : ∀ u ∈ us, u.oneCell' = true) (hm0 : 0 < m) (hmax : n + m ≤ 9223372036854775807) (hn : (n + m) * bytes ≤ 140737488355328) (hlo : lo ≤ w.heap.size)
    (h : ∀ A c w', w'.ownsRow lo e size (.slice A (n + m) c) (n + m) (xs ++ us) → Below lo w w' → w.grownBy w' v.ownBlock →
      ((Value.slice A (n + m) c).ownBlock = v.ownBlock ∨ ∃ g, (Value.slice A (n + m) c).ownBlock = some g ∧ w.heap.size ≤ g) → wpList P ops Q rest (a.put o.dst (.slice A (n + m) c)) w') :
    wpList P ops Q (o :: rest) a w := by
  refine wpList_plain hgd fun K hK => ?_
  obtain ⟨i, hi, hz, hsz, hb⟩ := E.hi
  obtain ⟨v', w', hr, h2, h3, h4, h5⟩ := run_append_own_at (P := P) w lo t o.type e i z size bytes E.ht hi hz hsz hb E.hzs E.hsz v n xs hown ⟨b, off, none⟩ m c us hul
    (fun j u hu => by
      have hadd : (⟨b, off, none⟩ : Addr).add j = ⟨b, off + j, none⟩ := by
        unfold Addr.add
        split
        · simp_all
        · rfl
      rw [hadd]
      exact hcell j u hu) hone (by unfold maxLen; omega) hn hlo
  have hform : ∃ A c, v' = .slice A (n + m) c := by
    rcases h2.2 with ⟨rfl, h0⟩ | ⟨g, cap, cur, rfl, _⟩
    · omega
    · exact ⟨_, _, rfl⟩
  obtain ⟨A, c, rfl⟩ := hform
  unfold Oper.wp execOp
  simp only [ho, resolve, invoke, builtin, Sem.run_bind, Sem.run_pure, Result.andThen_ok, List.map_toArray, List.map_cons, List.map_nil, hs, hx, hr]
  refine hK _ _ (h A c w' h2 ⟨h3.os, h3.tape, h3.output, h3.size, fun k hk => h3.block k (by omega) (fun e => ?_)⟩ h3 ?_)
  · have := (hown.lt k e.symm).1
    omega
  · rcases h5 with h5 | h5
    · exact .inl h5
    · exact .inr ⟨_, h5, Nat.le_refl _⟩
end

/-- What drawn leaves are: at most 17 short texts, in new memory. -/
def LeavesRes (R m : Nat) (w : World) (e : Ending) (w' : World) : Prop :=
  ∃ (A : Option Addr) (q c : Nat) (ss : List ByteArray), e = .returned (.slice A q c) ∧ w'.ownsRow w.heap.size 9 1 (.slice A q c) q (ss.map Value.string) ∧
    (∀ s ∈ ss, s.size ≤ 100) ∧ q ≤ 17 ∧ Rdr w' R (m + 1000) ∧ w.grownBy w' (some R) ∧ w.heap.size ≤ w'.heap.size

theorem str_own_len {w : World} {lo e n : Nat} {v : Value} {ss : List ByteArray} (h : w.ownsRow lo e 1 v n (ss.map Value.string)) : ss.length = n := by have := h.1; simpa using this

set_option maxHeartbeats 2000000 in
theorem c_l93Leaves (R m : Nat) (w : World) (h : Rdr w R m) (hm : m ≤ 800000) :
    Calls Try.prog 52 #[.pointer (some ⟨R, 0, none⟩)] w (LeavesRes R m w) := by
  have hRlt := h.lt
  go_enter Try.func52, Try.ntmps52
  go_wp2_with fail
  refine (c_pick R m _ _ (h.alloc _) (by omega) (by omega) (by omega)).mono ?_
  rintro e w1 ⟨mm, hmm, rfl, hR1, hg1, hz1⟩
  have hG1 : w.grownBy w1 (some R) := gb_trans (gb_alloc (gb_refl w (some R)) _) hg1
  have hO1 : w1.ownsRow w.heap.size 9 1 (.slice (some ⟨w.heap.size, 0, none⟩) 0 0) 0 (([] : List ByteArray).map Value.string) :=
    own_kept (own_empty w w.heap.size 9 1 (Nat.le_refl _)) hg1 (fun k e => by injection e with e; omega)
  clear hz1
  have hmm8 : mm ≤ 7 := by omega
  have w1 : IntKind.i64.wrap (1 + (mm : Int)) = ((mm + 1 : Nat) : Int) := by rw [IntWalk.i64_in _ (by omega)]; omega
  clear hmm
  obtain ⟨n, hn⟩ : ∃ n, mm + 1 = n := ⟨_, rfl⟩
  rw [hn] at w1
  have hn1 : 1 ≤ n := by omega
  have hn8 : n ≤ 8 := by omega
  go_wp2
  clear w1
  go_loopw [3, 5] (fun v i wr => ∃ (k : Nat) (A : Option Addr) (c : Nat) (ss : List ByteArray), k ≤ n ∧ i = .int .i64 k ∧ v = .slice A k c ∧ wr.ownsRow w.heap.size 9 1 (.slice A k c) k (ss.map Value.string) ∧
    Hid (∀ s ∈ ss, s.size ≤ 100) ∧ Rdr wr R (m + 1 + 40 * k) ∧ w.grownBy wr (some R) ∧ w.heap.size ≤ wr.heap.size) (fun _ i _ => n - (intOf i).toNat)
  case atStart => exact ⟨0, _, _, [], Nat.zero_le _, rfl, rfl, hO1, Lib.hid (by simp), hR1, hG1, hG1.size⟩
  case round =>
    obtain ⟨k, A, c, ss, hk, rfl, rfl, hown, hall, hR, hG, hlo⟩ := hrel
    by_cases hlt : k < n
    · go_wp2_with fail
      refine (c_l91Ballot R _ _ _ hR (by omega) (by omega) (by omega)).mono ?_
      rintro e w2 ⟨A', c', xs, rfl, hown2, hb, hlen, hR2, hg2, hlo2⟩
      have hownA := own_kept hown hg2 (fun k e => by injection e with e; omega)
      have hG2 := gb_trans hG hg2
      go_wp2_with fail
      refine (c_spec_BallotText _ _ _ _ _ _ (Sl.own hown2) (by omega)).mono ?_
      rintro e w3 ⟨rfl, d, rfl⟩
      have hsz := ballotText_size xs hlen
      obtain ⟨t, ht⟩ : ∃ t, ballotText xs = t := ⟨_, rfl⟩
      rw [ht] at hsz
      rw [ht]
      clear ht hown2 hb hlen
      have hownB := own_drewN hownA d
      have hlo3 : w.heap.size ≤ (w2.drewN d).heap.size := hG2.size
      go_wp2_with (at_builtin; refine wpList_app strE rfl _ _ rfl w.heap.size k _ _ rfl hownB [_] rfl rfl (by simp [Value.oneCell']) (by omega) (by omega) hlo3 ?_; intro A3 c3 w3 hown3 hb3 hg3 hat3)
      go_roundw
      case rel => exact ⟨k + 1, A3, c3, ss ++ [t], by omega, by go_num, rfl, by rw [List.map_append]; exact hown3, Lib.hid (by
        intro y hy
        rcases List.mem_append.1 hy with hy | hy
        · exact hall.out y hy
        · simp at hy; subst hy; exact hsz), ((hR2.drewN d).grown hg3 (fun g hg => by have := (hownB.lt g hg).1; omega)).mono (by omega), gb_step (gb_drewN hG2 d) hg3 (fun g hg => .inr (hownB.lt g hg).1), Nat.le_trans hlo3 hb3.size⟩
      case measure => simp [intOf]; omega
    · obtain rfl : k = n := by omega
      have Hn := Lib.hid hn
      clear hn
      go_wp2_with fail
      refine (c_pick R (m + 1 + 40 * k) _ _ hR (by omega) (by omega) (by omega)).mono ?_
      rintro e w2 ⟨z, hz, rfl, hR2, hg2, hz2⟩
      have hown2 := own_kept hown hg2 (fun k e => by injection e with e; omega)
      have hG2 := gb_trans hG hg2
      have hlo2 : w.heap.size ≤ w2.heap.size := hG2.size
      clear hz2
      by_cases h0 : z = 0
      · subst h0
        go_wp2_with fail
        refine (c_pick R _ _ _ hR2 (by omega) (by omega) (by omega)).mono ?_
        rintro e w3 ⟨q, hq, rfl, hR3, hg3, hz3⟩
        have hown3 := own_kept hown2 hg3 (fun k e => by injection e with e; omega)
        have hG3 := gb_trans hG2 hg3
        clear hz3
        have hqk : q < k := by omega
        obtain ⟨g, rfl, hg0, hg1'⟩ := own_addr hown3 (by omega)
        have hlc := (Sl.own hown3).le
        have hcm := (Sl.own hown3).max
        have hsl := str_own_len hown3
        obtain ⟨b, off, u, he, _, hcell⟩ := (Sl.own hown3).at1 hqk
        injection he with he
        injection he with he1 he2
        subst he1 he2
        rw [Nat.zero_add] at hcell
        have hf := hown3.frozenAt q
        obtain ⟨hst, hgs⟩ := hown3.stored q (.string ⟨#[120]⟩)
        have hst' : (w3.setCell ⟨g, q, none⟩ (.string ⟨#[120]⟩)).ownsRow w.heap.size 9 1 (.slice (some ⟨g, 0, none⟩) k c) k ((ss.set q ⟨#[120]⟩).map Value.string) := by
          rw [List.map_set]; exact hst
        go_wp2
        go_ret
        exact ⟨_, _, _, ss.set q ⟨#[120]⟩, rfl, hst', by
          intro y hy
          rcases List.mem_or_eq_of_mem_set hy with hy | rfl
          · exact hall.out y hy
          · decide, by omega, (hR3.grown hgs (fun g' e => by injection e with e; omega)).mono (by omega), gb_step hG3 hgs (fun g' e => by injection e with e; exact .inr (by omega)), Nat.le_trans hG3.size hgs.size⟩
      by_cases h1 : z = 1
      · subst h1
        go_wp2
        go_ret
        exact ⟨_, _, _, [], rfl, own_empty _ _ _ _ hlo2, by simp, by omega, (hR2.alloc _).mono (by omega), gb_alloc hG2 _, Nat.le_trans hlo2 (by simp)⟩
      by_cases h2 : z = 2
      · subst h2
        have hsl := str_own_len hown2
        obtain ⟨g, rfl, hg0, hg1'⟩ := own_addr hown2 (by omega)
        have hcells : ∀ j u, (ss.map Value.string)[j]? = some u → w2.cell? ⟨g, 0 + j, none⟩ = some u := by
          intro j u hu
          obtain ⟨b, off, he, _, _, hc⟩ := (Sl.own hown2).2.2.2 (by omega)
          injection he with he
          injection he with he1 he2
          subst he1 he2
          exact hc j u hu
        have hone : ∀ u ∈ ss.map Value.string, u.oneCell' = true := by
          intro u hu
          obtain ⟨y, _, rfl⟩ := List.mem_map.1 hu
          rfl
        have hlen : (ss.map Value.string).length = k * 1 := by simp [hsl]
        go_wp2_with (first | (at_builtin; refine wpList_appS strE rfl _ _ rfl w.heap.size k _ _ rfl hown2 g 0 k _ _ rfl hcells hlen hone (by omega) (by omega) (by omega) hlo2 ?_; intro A3 c3 w3 hown3 hb3 hg3 hat3; have hlo3 := hb3.size) | (at_builtin; refine wpList_app strE rfl _ _ rfl w.heap.size (k + k) _ _ rfl hown3 [_] rfl rfl (by simp [Value.oneCell']) (by omega) (by omega) (by omega) ?_; intro A4 c4 w4 hown4 hb4 hg4 hat4))
        have hlo3' : w.heap.size ≤ w3.heap.size := by omega
        have hR3 := hR2.grown hg3 (fun g hg => by have := (hown2.lt g hg).1; omega)
        have hG3 := gb_step hG2 hg3 (fun g hg => .inr (hown2.lt g hg).1)
        go_ret
        exact ⟨_, _, _, (ss ++ ss) ++ [⟨#[97]⟩], rfl, by rw [List.map_append, List.map_append]; exact hown4, by
          intro y hy
          rcases List.mem_append.1 hy with hy | hy
          · rcases List.mem_append.1 hy with hy | hy
            · exact hall.out y hy
            · exact hall.out y hy
          · simp at hy; subst hy; decide, by omega, (hR3.grown hg4 (fun g hg => by have := (hown3.lt g hg).1; omega)).mono (by omega), gb_step hG3 hg4 (fun g hg => .inr (hown3.lt g hg).1), Nat.le_trans hlo3' hb4.size⟩
      have z0 : ((z : Int) == 0) = false := by simp; omega
      have z1 : ((z : Int) == 1) = false := by simp; omega
      have z2 : ((z : Int) == 2) = false := by simp; omega
      go_wp2
      go_ret
      exact ⟨_, _, _, ss, rfl, hown2, hall.out, by omega, hR2.mono (by omega), hG2, hlo2⟩

/-- Drawn leaves, handed to a law. -/
def LeavesGot (w : World) (A : Option Addr) (q c : Nat) (ss : List ByteArray) (w' : World) : Prop :=
  w'.ownsRow w.heap.size 9 1 (.slice A q c) q (ss.map Value.string) ∧ (∀ s ∈ ss, s.size ≤ 100) ∧ q ≤ 17 ∧ w.grownBy w' none
theorem c_DrawTreeRoot (A : Option Addr) (len cap : Nat) (w : World) (h : CodeArg w A len cap) :
    Calls Try.prog 31 #[.slice A len cap] w fun e w' => ∃ A' q c ss, e = .returned (.slice A' q c) ∧ LeavesGot w A' q c ss w' := by
  go_enter Try.func31, Try.ntmps31
  go_wp2_with fail
  refine (c_l6Open _ _ _ _ h).mono ?_
  rintro e w1 ⟨rfl, hR1, hg1, hz1⟩
  go_wp2_with fail
  refine (c_l93Leaves _ _ _ hR1 (by omega)).mono ?_
  rintro e w2 ⟨A', q, c, ss, rfl, ho, hs, hq, hR2, hg2, hl2⟩
  have hG2 : w.grownBy w2 none := gb_step hg1 hg2 (fun g e => by injection e with e; right; omega)
  have ho' := World.ownsRow.base ho (lo' := w.heap.size) (by omega)
  go_wp2
  go_ret
  exact ⟨_, _, _, ss, rfl, ho', hs, hq, hG2⟩
theorem c_DrawTreeProof (A : Option Addr) (len cap : Nat) (w : World) (h : CodeArg w A len cap) :
    Calls Try.prog 37 #[.slice A len cap] w fun e w' => ∃ A' q c ss p, e = .returned (.tuple #[.slice A' q c, .int .i64 p]) ∧ -1 ≤ p ∧ p ≤ 20 ∧ LeavesGot w A' q c ss w' := by
  go_enter Try.func37, Try.ntmps37
  go_wp2_with fail
  refine (c_l6Open _ _ _ _ h).mono ?_
  rintro e w1 ⟨rfl, hR1, hg1, hz1⟩
  go_wp2_with fail
  refine (c_l93Leaves _ _ _ hR1 (by omega)).mono ?_
  rintro e w2 ⟨A', q, c, ss, rfl, ho, hs, hq, hR2, hg2, hl2⟩
  have hG2 : w.grownBy w2 none := gb_step hg1 hg2 (fun g e => by injection e with e; right; omega)
  have ho2 := World.ownsRow.base ho (lo' := w.heap.size) (by omega)
  have hw : IntKind.i64.wrap ((q : Int) + 2) = (q : Int) + 2 := IntWalk.i64_in _ (by omega)
  have HS := Lib.hid hz1
  go_wp2_with fail
  refine (c_pick _ _ _ _ hR2 (by omega) (by omega) (by omega)).mono ?_
  rintro e w3 ⟨k3, hk3, rfl, hR3, hg3, hz3⟩
  have ho3 := own_kept ho hg3 (fun k e => by injection e with e; left; omega)
  have hG3 := gb_step hG2 hg3 (fun g e => by injection e with e; right; omega)
  go_wp2_with fail
  refine (c_pick _ _ _ _ hR3 (by omega) (by omega) (by omega)).mono ?_
  rintro e w4 ⟨k4, hk4, rfl, hR4, hg4, hz4⟩
  have ho4 := own_kept ho3 hg4 (fun k e => by injection e with e; left; omega)
  have hG4 := gb_step hG3 hg4 (fun g e => by injection e with e; right; omega)
  have ho' := World.ownsRow.base ho4 (lo' := w.heap.size) (by omega)
  obtain ⟨d, hd⟩ : ∃ d : Nat, (k4 : Int).tdiv 15 = (d : Int) := ⟨k4 / 15, by rw [Int.tdiv_eq_ediv_of_nonneg (by omega)]; rfl⟩
  have hd1 : d ≤ 1 := by
    have h := hd
    rw [Int.tdiv_eq_ediv_of_nonneg (by omega)] at h
    omega
  go_wp2
  go_ret2
  exact ⟨_, _, _, ss, _, rfl, by omega, by omega, ho', hs, hq, hG4⟩
end Go.Proofs.Ytocdgmmmegcnoaa
