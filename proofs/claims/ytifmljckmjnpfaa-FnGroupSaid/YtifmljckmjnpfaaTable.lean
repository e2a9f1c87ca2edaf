/-
  How the laws compare and mark tables of ints.
-/
import Derived.Test.YtifmljckmjnpfaaIntRows
import Derived.Test.YtifmljckmjnpfaaMark
namespace Go.Proofs.Ytifmljckmjnpfaa
open Go.RowKit
set_option linter.unusedVariables false

/-- The marks from k on. -/
def marksF (k n : Nat) : List Int := (List.range n).map fun (i : Nat) => ((k + i : Nat) : Int)
theorem marksF_at {k n j : Nat} (h : j < n) : (marksF k n)[j]? = some ((k + j : Nat) : Int) := by
  unfold marksF
  rw [List.getElem?_map, List.getElem?_range h]
  rfl
theorem marksF_len (k n : Nat) : (marksF k n).length = n := by simp [marksF]

set_option maxHeartbeats 400000 in
theorem c_markIntF (lo : Nat) (A : Option Addr) (n c q : Nat) (xs : List Int) (w : World) (h : w.ownsRow lo 3 1 (.slice A n c) n (xs.map (Value.int .i64))) (hb : q + n ≤ 10000000000000) :
    Calls Try.prog 56 #[.slice A n c, .int .i64 (q : Int)] w fun e w' => e = .returned (.int .i64 ((q + n : Nat) : Int)) ∧ w.grownBy w' (Value.slice A n c).ownBlock ∧ w'.ownsRow lo 3 1 (.slice A n c) n ((marksF q n).map (Value.int .i64)) := by
  have hlc := (Sl.own h).le
  have hcm := (Sl.own h).max
  go_enter Try.func56, Try.ntmps56
  go_wp2
  go_loopw [1, 5] (fun a i wr => ∃ (k : Nat) (ys : List Int), k ≤ n ∧ i = .int .i64 (k : Int) ∧ a = .int .i64 ((q + k : Nat) : Int) ∧ wr.ownsRow lo 3 1 (.slice A n c) n (ys.map (Value.int .i64)) ∧ w.grownBy wr (Value.slice A n c).ownBlock ∧ Hid (∀ j, j < k → ys[j]? = some ((q + j : Nat) : Int))) (fun _ i _ => n - (intOf i).toNat)
  case atStart => exact ⟨0, xs, Nat.zero_le _, rfl, rfl, h, gb_refl _ _, Lib.hid (by omega)⟩
  case round =>
    obtain ⟨k, ys, hk, rfl, rfl, hown, hG, hpre⟩ := hrel
    have hyl : ys.length = n := by have := hown.1; simpa using this
    have Hyl := Lib.hid hyl
    clear hyl
    by_cases hlt : k < n
    · obtain ⟨g, rfl, hg0, hg1'⟩ := own_addr0 hown (by omega)
      obtain ⟨b, off, u, he, _, hcell⟩ := (Sl.own hown).at1 hlt
      injection he with he
      injection he with he1 he2
      subst he1 he2
      rw [Nat.zero_add] at hcell
      have hf := hown.frozenAt k
      obtain ⟨hst, hgs⟩ := hown.stored k (.int .i64 ((q + k : Nat) : Int))
      have hst' : (wr.setCell ⟨g, k, none⟩ (.int .i64 ((q + k : Nat) : Int))).ownsRow lo 3 1 (.slice (some ⟨g, 0, none⟩) n c) n ((ys.set k ((q + k : Nat) : Int)).map (Value.int .i64)) := by
        rw [List.map_set]; exact hst
      have hk' : (k : Int) < (n : Int) := by omega
      obtain ⟨K, hK⟩ : ∃ K : Nat, q + k = K := ⟨_, rfl⟩
      have HK := Lib.hid hK
      have hKb : K ≤ 10000000000000 := by omega
      rw [hK] at hst hst' hgs
      rw [hK]
      clear hK hst
      go_wp2
      go_roundw
      case rel => exact ⟨k + 1, ys.set k (K : Int), by omega, by go_num, by have := HK.out; congr 1; omega, hst', gb_trans hG hgs, Lib.hid (fun j hj => by
        by_cases hjk : j = k
        · subst hjk
          rw [List.getElem?_set_self (by rw [Hyl.out]; exact hlt), HK.out]
        · rw [List.getElem?_set_ne (fun e => hjk e.symm)]
          exact hpre.out j (by omega))⟩
      case measure => simp [intOf]; omega
    · obtain rfl : k = n := by omega
      have hfin : ys = marksF q k := by
        apply List.ext_getElem?
        intro j
        by_cases hj : j < k
        · rw [hpre.out j hj, marksF_at hj]
        · rw [List.getElem?_eq_none (by rw [Hyl.out]; omega), List.getElem?_eq_none (by rw [marksF_len]; omega)]
      subst hfin
      go_wp2
      go_ret
      exact ⟨rfl, hG, hown⟩

set_option maxHeartbeats 400000 in
theorem c_heldIntF (lo : Nat) (A : Option Addr) (n c q : Nat) (w : World) (h : Ints w lo A n c (marksF q n)) (hb : q + n ≤ 10000000000000) :
    Calls Try.prog 57 #[.slice A n c, .int .i64 (q : Int)] w fun e w' => e = .returned (.int .i64 ((q + n : Nat) : Int)) ∧ ∃ d, w' = w.drewN d := by
  have hlc := h.le
  have hcm := h.max
  go_enter Try.func57, Try.ntmps57
  go_wp2
  go_loopw [1, 5] (fun a i wr => ∃ (k d : Nat), k ≤ n ∧ i = .int .i64 (k : Int) ∧ a = .int .i64 ((q + k : Nat) : Int) ∧ wr = w.drewN d) (fun _ i _ => n - (intOf i).toNat)
  case atStart => exact ⟨0, 0, Nat.zero_le _, rfl, rfl, rfl⟩
  case round =>
    obtain ⟨k, d, hk, rfl, rfl, rfl⟩ := hrel
    by_cases hlt : k < n
    · obtain ⟨b, off, z, rfl, hz, hcell⟩ := h.at_ hlt
      obtain rfl : z = ((q + k : Nat) : Int) := by
        have := hz.out
        rw [marksF_at hlt] at this
        injection this with this
        exact this.symm
      obtain ⟨K, hK⟩ : ∃ K : Nat, q + k = K := ⟨_, rfl⟩
      have HK := Lib.hid hK
      have hKb : K ≤ 10000000000000 := by omega
      rw [hK] at hcell
      rw [hK]
      clear hK hz
      have hne : ((K : Int) != (K : Int)) = false := by simp
      have hk' : (k : Int) < (n : Int) := by omega
      go_wp2
      go_roundw
      case rel => exact ⟨k + 1, _, by omega, by go_num, by have := HK.out; congr 1; omega, rfl⟩
      case measure => simp [intOf]; omega
    · obtain rfl : k = n := by omega
      go_wp2
      go_ret
      exact ⟨rfl, d, rfl⟩

/-- What a mark of a table counts to. -/
def cntT (k : Nat) : List Row → Nat
  | [] => k
  | r :: rs => cntT (k + r.length) rs
def markT2 (k : Nat) : List Row → List Row
  | [] => []
  | r :: rs => marksF k r.length :: markT2 (k + r.length) rs
theorem cntT_append (k : Nat) (a b : List Row) : cntT k (a ++ b) = cntT (cntT k a) b := by
  induction a generalizing k with
  | nil => rfl
  | cons x a ih => exact ih _
theorem markT2_append (k : Nat) (a b : List Row) : markT2 k (a ++ b) = markT2 k a ++ markT2 (cntT k a) b := by
  induction a generalizing k with
  | nil => rfl
  | cons x a ih => rw [List.cons_append, markT2, markT2, cntT, ih]; rfl
theorem markT2_len (k : Nat) (a : List Row) : (markT2 k a).length = a.length := by
  induction a generalizing k with
  | nil => rfl
  | cons x a ih => rw [markT2, List.length_cons, List.length_cons, ih]
theorem cntT_flat (k : Nat) (a : List Row) : cntT k a = k + a.flatten.length := by
  induction a generalizing k with
  | nil => rfl
  | cons x a ih => rw [cntT, ih, List.flatten_cons, List.length_append]; omega
theorem cntT_step {k j : Nat} {rs : List Row} {r : Row} (h : rs[j]? = some r) : cntT k (rs.take (j + 1)) = cntT k (rs.take j) + r.length := by
  rw [take_succ_of h, cntT_append]; rfl
theorem markT2_step {k j : Nat} {rs : List Row} {r : Row} (h : rs[j]? = some r) : markT2 k (rs.take (j + 1)) = markT2 k (rs.take j) ++ [marksF (cntT k (rs.take j)) r.length] := by
  rw [take_succ_of h, markT2_append]; rfl
theorem cntT_mono {k j : Nat} (rs : List Row) : cntT k (rs.take j) ≤ cntT k rs := by
  have h := cntT_append k (rs.take j) (rs.drop j)
  rw [List.take_append_drop, cntT_flat (cntT k (rs.take j))] at h
  omega
theorem mixT_at {k j : Nat} {rs : List Row} {r : Row} (h : rs[j]? = some r) : (markT2 k (rs.take j) ++ rs.drop j)[j]? = some r := by
  have hj : j < rs.length := (List.getElem?_eq_some_iff.1 h).1
  rw [List.getElem?_append_right (by rw [markT2_len, List.length_take]; omega), markT2_len, List.length_take, List.getElem?_drop, show j + (j - min j rs.length) = j from by omega]
  exact h
theorem mixT_set {k j : Nat} {rs : List Row} {r r' : Row} (h : rs[j]? = some r) : (markT2 k (rs.take j) ++ rs.drop j).set j r' = markT2 k (rs.take j) ++ [r'] ++ rs.drop (j + 1) := by
  have hj : j < rs.length := (List.getElem?_eq_some_iff.1 h).1
  rw [List.set_append_right _ _ (by rw [markT2_len, List.length_take]; omega), markT2_len, List.length_take, show j - min j rs.length = 0 from by omega, drop_cons' h, List.set_cons_zero, List.append_assoc]
  rfl

set_option maxHeartbeats 2000000 in
theorem c_markIntSS (lo hi : Nat) (A : Option Addr) (n c k : Nat) (rs : List Row) (hs : List Hd) (w : World) (h : OwnRows 3 32 w lo hi A n c rs hs) (hb : cntT k rs ≤ 10000000000000) :
    Calls Try.prog 27 #[.slice A n c, .int .i64 (k : Int)] w fun e w' => e = .returned (.int .i64 ((cntT k rs : Nat) : Int)) ∧ Span lo hi w w' ∧ OwnRows 3 32 w' lo hi A n c (markT2 k rs) hs := by
  have hlc := h.irows.le
  have hcm := h.irows.max
  have hxl := Lib.hid h.xlen
  have Hb := Lib.hid hb
  clear hb
  go_enter Try.func27, Try.ntmps27
  go_wp2
  go_loopw [1, 5] (fun a i wr => ∃ (j : Nat), j ≤ n ∧ i = .int .i64 (j : Int) ∧ a = .int .i64 ((cntT k (rs.take j) : Nat) : Int) ∧ OwnRows 3 32 wr lo hi A n c (markT2 k (rs.take j) ++ rs.drop j) hs ∧ Span lo hi w wr) (fun _ i _ => n - (intOf i).toNat)
  case atStart => exact ⟨0, Nat.zero_le _, rfl, rfl, by simpa [markT2] using h, Span.refl _ _ _⟩
  case round =>
    obtain ⟨j, hj, rfl, rfl, hown, hG⟩ := hrel
    by_cases hlt : j < n
    · obtain ⟨r, hx⟩ : ∃ b, rs[j]? = some b := ⟨rs[j]'(by rw [hxl.out]; exact hlt), List.getElem?_eq_getElem _⟩
      have hst := cntT_step (k := k) hx
      have hmk := markT2_step (k := k) hx
      have hbd : cntT k (rs.take (j + 1)) ≤ 10000000000000 := Nat.le_trans (cntT_mono rs) Hb.out
      obtain ⟨K, hK⟩ : ∃ K : Nat, cntT k (rs.take j) = K := ⟨_, rfl⟩
      rw [hK] at hst hmk
      rw [hK]
      have hmx := mixT_at (k := k) hx
      obtain ⟨g, rfl, hg0, hg1⟩ := own_addr0 hown.row (by omega)
      obtain ⟨d, hd⟩ : ∃ d, hs[j]? = some d := ⟨hs[j]'(by rw [hown.len]; exact (List.getElem?_eq_some_iff.1 hmx).1), List.getElem?_eq_getElem _⟩
      have m0 : wr.cell? ⟨g, j, none⟩ = some (.slice d.1 r.length d.2) := by
        rw [hown.row.cellAt j (by omega)]
        exact tabCells_at hmx hd
      have hrow := hown.rows j r d hmx hd
      have hcall := c_markIntF lo d.1 r.length d.2 K r _ hrow (by omega)
      have Hc := Lib.hid hcall
      have O2 := Lib.hid hown
      have Hst := Lib.hid hst
      have Hmk := Lib.hid hmk
      have Hmx := Lib.hid hmx
      have HdD := Lib.hid hd
      have Hx := Lib.hid hx
      have hj' : (j : Int) < (n : Int) := by omega
      have hj0 : (0 : Int) ≤ (j : Int) := by omega
      obtain ⟨N, hN⟩ : ∃ N, r.length = N := ⟨_, rfl⟩
      have HN := Lib.hid hN
      have hKb : K + N ≤ 10000000000000 := by omega
      rw [hN] at m0 Hc
      obtain ⟨A', c'⟩ := d
      clear hcall hst hmk hmx hd hx hK hN hrow hown
      go_wp2_with fail
      refine Hc.out.mono ?_
      rintro e w3 ⟨rfl, hg3, hp3⟩
      obtain ⟨o3, s3⟩ := O2.out.setRow (k := j) (ys := r) (ys' := marksF K r.length) (d := (A', c')) Hmx.out HdD.out (marksF_len _ _) (by show World.grownBy _ _ (Value.slice A' r.length c').ownBlock; rw [HN.out]; exact hg3) (by
        show World.ownsRow _ _ _ _ (Value.slice A' r.length c') r.length ((marksF K r.length).map (Value.int .i64))
        rw [HN.out]
        exact hp3)
      rw [mixT_set Hx.out] at o3
      have hfin : Hid (OwnRows 3 32 w3 lo hi (some ⟨g, 0, none⟩) n c (markT2 k (rs.take (j + 1)) ++ rs.drop (j + 1)) hs) := Lib.hid (by
        rw [Hmk.out]
        exact o3)
      have S3 := hG.trans s3
      have hcn : Hid (cntT k (rs.take (j + 1)) = K + N) := Lib.hid (by rw [Hst.out, ← HN.out])
      clear o3 s3 hg3 hp3 Hc O2 hG
      go_wp2
      go_roundw
      case rel => exact ⟨j + 1, by omega, by go_num, (by rw [hcn.out]; simp), hfin.out, S3⟩
      case measure => simp [intOf]; omega
    · obtain rfl : j = n := by omega
      have h1 : Hid (rs.take j = rs) := Lib.hid (List.take_of_length_le (by rw [hxl.out]; exact Nat.le_refl _))
      have h2 : Hid (rs.drop j = []) := Lib.hid (List.drop_of_length_le (by rw [hxl.out]; exact Nat.le_refl _))
      rw [h1.out, h2.out, List.append_nil] at hown
      rw [h1.out]
      go_wp2
      go_ret
      exact ⟨rfl, hG, hown⟩

set_option maxHeartbeats 2000000 in
theorem c_heldIntSS (lo : Nat) (A : Option Addr) (n c k : Nat) (rs : List Row) (w : World) (h : IRows w lo A n c (markT2 k rs)) (hb : cntT k rs ≤ 10000000000000) :
    Calls Try.prog 28 #[.slice A n c, .int .i64 (k : Int)] w fun e w' => e = .returned (.int .i64 ((cntT k rs : Nat) : Int)) ∧ w.grownBy w' none := by
  have hlc := h.le
  have hcm := h.max
  have hxl := Lib.hid (show rs.length = n from by have := h.len; rwa [markT2_len] at this)
  have Hb := Lib.hid hb
  clear hb
  go_enter Try.func28, Try.ntmps28
  go_wp2
  go_loopw [1, 5] (fun a i wr => ∃ (j : Nat), j ≤ n ∧ i = .int .i64 (j : Int) ∧ a = .int .i64 ((cntT k (rs.take j) : Nat) : Int) ∧ w.grownBy wr none) (fun _ i _ => n - (intOf i).toNat)
  case atStart => exact ⟨0, Nat.zero_le _, rfl, rfl, gb_refl _ _⟩
  case round =>
    obtain ⟨j, hj, rfl, rfl, hG⟩ := hrel
    by_cases hlt : j < n
    · obtain ⟨r, hx⟩ : ∃ b, rs[j]? = some b := ⟨rs[j]'(by rw [hxl.out]; exact hlt), List.getElem?_eq_getElem _⟩
      have hst := cntT_step (k := k) hx
      have hbd : cntT k (rs.take (j + 1)) ≤ 10000000000000 := Nat.le_trans (cntT_mono rs) Hb.out
      have hmkat : (markT2 k rs)[j]? = some (marksF (cntT k (rs.take j)) r.length) := by
        have h1 : markT2 k rs = markT2 k (rs.take (j + 1)) ++ markT2 (cntT k (rs.take (j + 1))) (rs.drop (j + 1)) := by rw [← markT2_append, List.take_append_drop]
        rw [h1, markT2_step hx, List.append_assoc, List.getElem?_append_right (by rw [markT2_len, List.length_take]; omega), markT2_len, List.length_take, show j - min j rs.length = 0 from by have := hxl.out; omega]
        rfl
      obtain ⟨K, hK⟩ : ∃ K : Nat, cntT k (rs.take j) = K := ⟨_, rfl⟩
      rw [hK] at hst hmkat
      rw [hK]
      obtain ⟨b, off, y2, A', c', rfl, hp, hps, m0⟩ := IRows.at_ (IRows.keep0 h hG) hlt
      have he := hp.out
      rw [hmkat] at he
      injection he with he
      subst he
      rw [marksF_len] at hps m0
      have hcall := c_heldIntF lo A' r.length c' K _ hps (by omega)
      have Hc := Lib.hid hcall
      have Hst := Lib.hid hst
      have hj' : (j : Int) < (n : Int) := by omega
      have hj0 : (0 : Int) ≤ (j : Int) := by omega
      obtain ⟨N, hN⟩ : ∃ N, r.length = N := ⟨_, rfl⟩
      have HN := Lib.hid hN
      have hKb : K + N ≤ 10000000000000 := by omega
      rw [hN] at m0 Hc
      clear hcall hst hmkat hp hx hK hN hps
      go_wp2_with fail
      refine Hc.out.mono ?_
      rintro e w3 ⟨rfl, dd, rfl⟩
      have hcn : Hid (cntT k (rs.take (j + 1)) = K + N) := Lib.hid (by rw [Hst.out, ← HN.out])
      have hnn : ¬ ((K + N : Nat) : Int) < 0 := by omega
      have hgd := gb_drewN (gb_refl wr none) dd
      clear Hc
      go_wp2
      go_roundw
      case rel => exact ⟨j + 1, by omega, by go_num, (by rw [hcn.out]; simp), gb_trans hG hgd⟩
      case measure => simp [intOf]; omega
    · obtain rfl : j = n := by omega
      have h1 : Hid (rs.take j = rs) := Lib.hid (List.take_of_length_le (by rw [hxl.out]; exact Nat.le_refl _))
      rw [h1.out]
      go_wp2
      go_ret
      exact ⟨rfl, hG⟩

attribute [local go_sem] flowAct flowOp_def flowUpon
set_option maxHeartbeats 1000000 in
theorem c_eqIntSS (lo lo' : Nat) (A B : Option Addr) (n cap m cap' : Nat) (xs ys : List Row) (w : World) (h : IRows w lo A n cap xs) (h' : IRows w lo' B m cap' ys) :
    Calls Try.prog 24 #[.slice A n cap, .slice B m cap'] w fun e w' => e = .returned (.bool (decide (xs = ys))) ∧ w.grownBy w' none := by
  have hlc := h.le
  have hcm := h.max
  have hxl := Lib.hid h.len
  have hlc' := h'.le
  have hcm' := h'.max
  have hyl := Lib.hid h'.len
  by_cases hnm : n = m
  · subst hnm
    go_enter Try.func24, Try.ntmps24
    go_wp2
    go_loopw [5] (fun i wr => ∃ k : Nat, k ≤ n ∧ i = .int .i64 k ∧ w.grownBy wr none ∧ Hid (xs.take k = ys.take k)) (fun i _ => n - (intOf i).toNat)
    case atStart => exact ⟨0, Nat.zero_le _, rfl, gb_refl _ _, Lib.hid rfl⟩
    case round =>
      obtain ⟨k, hk, rfl, hG, hpre⟩ := hrel
      by_cases hlt : k < n
      · obtain ⟨b, off, p1, A1, c1, rfl, hz, hp1, m0⟩ := IRows.at_ (IRows.keep0 h hG) hlt
        obtain ⟨b', off', p2, A2, c2, rfl, hz', hp2, m0'⟩ := IRows.at_ (IRows.keep0 h' hG) hlt
        have hk' : (k : Int) < (n : Int) := by omega
        have hk0 : (0 : Int) ≤ (k : Int) := by omega
        have hcall := fun (x : World) (hx : wr.grownBy x none) => c_eqIntS lo lo' A1 A2 p1.length c1 p2.length c2 p1 p2 x (Sl.keep0 hp1 hx) (Sl.keep0 hp2 hx)
        have Hc := Lib.hid hcall
        clear hcall hp1 hp2
        obtain ⟨N, hN⟩ : ∃ N, p1.length = N := ⟨_, rfl⟩
        obtain ⟨M, hM⟩ : ∃ M, p2.length = M := ⟨_, rfl⟩
        rw [hN] at m0 Hc
        rw [hM] at m0' Hc
        clear hN hM
        obtain ⟨D, hD⟩ : ∃ D, decide (p1 = p2) = D := ⟨_, rfl⟩
        have HD := Lib.hid hD
        rw [hD] at Hc
        clear hD
        go_wp2_with fail
        refine wp_known wr [.slice (some ⟨b, off, none⟩) n cap, .int .i64 k, .pointer (some ⟨b, off + k, none⟩), .slice A1 N c1, .slice (some ⟨b', off', none⟩) n cap', .int .i64 k, .pointer (some ⟨b', off' + k, none⟩), .slice A2 M c2, .bool D, .bool !D] (gb_refl _ _) (by kernel_rfl) (by kernel_rfl) ?_ ?_
        · refine ⟨?_, ?_, ?_, ?_, ?_, ?_, ?_, ?_, ?_, ?_, trivial⟩
          all_goals
            intro n u x hn hC hp
            simp [flowPreds, Region.binds, fKnown] at hp
            have n0 := gb_cell hC m0 (by simp)
            have n0' := gb_cell hC m0' (by simp)
            go_simp
          all_goals try exact ⟨gb_refl _ _, rfl⟩
          · refine (Hc.out _ hC).mono ?_
            rintro e y ⟨rfl, dd, rfl⟩
            exact ⟨_, rfl, gb_drewN (gb_refl _ _) dd, rfl⟩
        · intro u x hC hp'
          have e1 : u 9 = .bool !D := hp' 9 (by decide)
          clear Hc
          cases D with
          | true =>
            have hst := of_decide_eq_true HD.out
            have Hst := Lib.hid hst
            clear hst
            go_simp
            go_wp2
            go_roundw
            case rel => exact ⟨k + 1, by omega, by go_num, gb_trans hG hC, Lib.hid (by rw [take_succ_of hz.out, take_succ_of hz'.out, hpre.out, Hst.out])⟩
            case measure => simp [intOf]; omega
          | false =>
            have hst := of_decide_eq_false HD.out
            have Hst := Lib.hid hst
            clear hst
            go_simp
            go_wp2
            go_ret
            exact ⟨ret_bool (decide_eq_false (fun e => Hst.out (by subst e; have := hz.out.symm.trans hz'.out; injection this))).symm, gb_trans hG hC⟩
      · obtain rfl : k = n := by omega
        go_wp2
        go_ret
        exact ⟨ret_bool (decide_eq_true (by have := hpre.out; rwa [List.take_of_length_le (by rw [hxl.out]; exact Nat.le_refl _), List.take_of_length_le (by rw [hyl.out]; exact Nat.le_refl _)] at this)).symm, hG⟩
  · have hne : ((n : Int) != (m : Int)) = true := by rw [bne_iff_ne]; omega
    go_enter Try.func24, Try.ntmps24
    go_wp2
    go_ret
    exact ⟨ret_bool (decide_eq_false (fun e => hnm (by rw [← hxl.out, ← hyl.out, e]))).symm, gb_refl _ _⟩
set_option maxHeartbeats 1000000 in
theorem c_sameTable (lo lo' : Nat) (A B : Option Addr) (n cap m cap' : Nat) (xs ys : List Row) (w : World) (h : IRows w lo A n cap xs) (h' : IRows w lo' B m cap' ys) :
    Calls Try.prog 20 #[.slice A n cap, .slice B m cap'] w fun e w' => e = .returned (.bool (decide (xs = ys))) ∧ w.grownBy w' none := by
  have hlc := h.le
  have hcm := h.max
  have hxl := Lib.hid h.len
  have hlc' := h'.le
  have hcm' := h'.max
  have hyl := Lib.hid h'.len
  by_cases hnm : n = m
  · subst hnm
    go_enter Try.func20, Try.ntmps20
    go_wp2
    go_loopw [5] (fun i wr => ∃ k : Nat, k ≤ n ∧ i = .int .i64 k ∧ w.grownBy wr none ∧ Hid (xs.take k = ys.take k)) (fun i _ => n - (intOf i).toNat)
    case atStart => exact ⟨0, Nat.zero_le _, rfl, gb_refl _ _, Lib.hid rfl⟩
    case round =>
      obtain ⟨k, hk, rfl, hG, hpre⟩ := hrel
      by_cases hlt : k < n
      · obtain ⟨b, off, p1, A1, c1, rfl, hz, hp1, m0⟩ := IRows.at_ (IRows.keep0 h hG) hlt
        obtain ⟨b', off', p2, A2, c2, rfl, hz', hp2, m0'⟩ := IRows.at_ (IRows.keep0 h' hG) hlt
        have hk' : (k : Int) < (n : Int) := by omega
        have hk0 : (0 : Int) ≤ (k : Int) := by omega
        have hcall := fun (x : World) (hx : wr.grownBy x none) => c_sameInts lo lo' A1 A2 p1.length c1 p2.length c2 p1 p2 x (Sl.keep0 hp1 hx) (Sl.keep0 hp2 hx)
        have Hc := Lib.hid hcall
        clear hcall hp1 hp2
        obtain ⟨N, hN⟩ : ∃ N, p1.length = N := ⟨_, rfl⟩
        obtain ⟨M, hM⟩ : ∃ M, p2.length = M := ⟨_, rfl⟩
        rw [hN] at m0 Hc
        rw [hM] at m0' Hc
        clear hN hM
        obtain ⟨D, hD⟩ : ∃ D, decide (p1 = p2) = D := ⟨_, rfl⟩
        have HD := Lib.hid hD
        rw [hD] at Hc
        clear hD
        go_wp2_with fail
        refine wp_known wr [.slice (some ⟨b, off, none⟩) n cap, .int .i64 k, .pointer (some ⟨b, off + k, none⟩), .slice A1 N c1, .slice (some ⟨b', off', none⟩) n cap', .int .i64 k, .pointer (some ⟨b', off' + k, none⟩), .slice A2 M c2, .bool D, .bool !D] (gb_refl _ _) (by kernel_rfl) (by kernel_rfl) ?_ ?_
        · refine ⟨?_, ?_, ?_, ?_, ?_, ?_, ?_, ?_, ?_, ?_, trivial⟩
          all_goals
            intro n u x hn hC hp
            simp [flowPreds, Region.binds, fKnown] at hp
            have n0 := gb_cell hC m0 (by simp)
            have n0' := gb_cell hC m0' (by simp)
            go_simp
          all_goals try exact ⟨gb_refl _ _, rfl⟩
          · refine (Hc.out _ hC).mono ?_
            rintro e y ⟨rfl, dd, rfl⟩
            exact ⟨_, rfl, gb_drewN (gb_refl _ _) dd, rfl⟩
        · intro u x hC hp'
          have e1 : u 9 = .bool !D := hp' 9 (by decide)
          clear Hc
          cases D with
          | true =>
            have hst := of_decide_eq_true HD.out
            have Hst := Lib.hid hst
            clear hst
            go_simp
            go_wp2
            go_roundw
            case rel => exact ⟨k + 1, by omega, by go_num, gb_trans hG hC, Lib.hid (by rw [take_succ_of hz.out, take_succ_of hz'.out, hpre.out, Hst.out])⟩
            case measure => simp [intOf]; omega
          | false =>
            have hst := of_decide_eq_false HD.out
            have Hst := Lib.hid hst
            clear hst
            go_simp
            go_wp2
            go_ret
            exact ⟨ret_bool (decide_eq_false (fun e => Hst.out (by subst e; have := hz.out.symm.trans hz'.out; injection this))).symm, gb_trans hG hC⟩
      · obtain rfl : k = n := by omega
        go_wp2
        go_ret
        exact ⟨ret_bool (decide_eq_true (by have := hpre.out; rwa [List.take_of_length_le (by rw [hxl.out]; exact Nat.le_refl _), List.take_of_length_le (by rw [hyl.out]; exact Nat.le_refl _)] at this)).symm, hG⟩
  · have hne : ((n : Int) != (m : Int)) = true := by rw [bne_iff_ne]; omega
    go_enter Try.func20, Try.ntmps20
    go_wp2
    go_ret
    exact ⟨ret_bool (decide_eq_false (fun e => hnm (by rw [← hxl.out, ← hyl.out, e]))).symm, gb_refl _ _⟩
end Go.Proofs.Ytifmljckmjnpfaa
