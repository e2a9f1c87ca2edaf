/-
  How the laws mark batches and see whether they are still marked.
-/
import Derived.Test.YtifmljckmjnpfaaMarkPiles
namespace Go.Proofs.Ytifmljckmjnpfaa
open Go.RowKit
set_option linter.unusedVariables false

/-- What a mark of batches counts to. -/
def cntPc (k : Nat) : List Pc → Nat
  | [] => k
  | b :: bs => cntPc (k + 1 + 2 * b.2.length) bs
def markPc (k : Nat) : List Pc → List Pc
  | [] => []
  | b :: bs => (((k : Nat) : Int), markPl (k + 1) b.2.length) :: markPc (k + 1 + 2 * b.2.length) bs
theorem cntPc_append (k : Nat) (a b : List Pc) : cntPc k (a ++ b) = cntPc (cntPc k a) b := by
  induction a generalizing k with
  | nil => rfl
  | cons x a ih => exact ih _
theorem markPc_append (k : Nat) (a b : List Pc) : markPc k (a ++ b) = markPc k a ++ markPc (cntPc k a) b := by
  induction a generalizing k with
  | nil => rfl
  | cons x a ih => rw [List.cons_append, markPc, markPc, cntPc, ih]; rfl
theorem markPc_len (k : Nat) (a : List Pc) : (markPc k a).length = a.length := by
  induction a generalizing k with
  | nil => rfl
  | cons x a ih => rw [markPc, List.length_cons, List.length_cons, ih]
theorem cntPc_ge (k : Nat) (a : List Pc) : k ≤ cntPc k a := by
  induction a generalizing k with
  | nil => exact Nat.le_refl _
  | cons x a ih => rw [cntPc]; exact Nat.le_trans (by omega) (ih _)
theorem cntPc_step {k j : Nat} {bs : List Pc} {b : Pc} (h : bs[j]? = some b) : cntPc k (bs.take (j + 1)) = cntPc k (bs.take j) + 1 + 2 * b.2.length := by
  rw [take_succ_of h, cntPc_append]; rfl
theorem markPc_step {k j : Nat} {bs : List Pc} {b : Pc} (h : bs[j]? = some b) : markPc k (bs.take (j + 1)) = markPc k (bs.take j) ++ [(((cntPc k (bs.take j) : Nat) : Int), markPl (cntPc k (bs.take j) + 1) b.2.length)] := by
  rw [take_succ_of h, markPc_append]; rfl
theorem cntPc_mono {k j : Nat} (bs : List Pc) : cntPc k (bs.take j) ≤ cntPc k bs := by
  have h := cntPc_append k (bs.take j) (bs.drop j)
  rw [List.take_append_drop] at h
  rw [h]
  exact cntPc_ge _ _
theorem cntPc_le (k N M : Nat) (bs : List Pc) (hl : bs.length ≤ N) (hb : ∀ b ∈ bs, b.2.length ≤ M) : cntPc k bs ≤ k + N * (1 + 2 * M) := by
  induction bs generalizing k N with
  | nil => exact Nat.le_add_right _ _
  | cons b bs ih =>
    cases N with
    | zero => simp at hl
    | succ N =>
      have h1 := ih (k + 1 + 2 * b.2.length) N (by simpa using hl) (fun x hx => hb x (List.mem_cons_of_mem _ hx))
      have h2 := hb b (by simp)
      have h3 : 1 + 2 * b.2.length ≤ 1 + 2 * M := by omega
      show cntPc (k + 1 + 2 * b.2.length) bs ≤ _
      have h4 : (N + 1) * (1 + 2 * M) = N * (1 + 2 * M) + (1 + 2 * M) := Nat.succ_mul _ _
      omega
/-- The batch that comes next is as it was. -/
theorem mixed_at {k j : Nat} {bs : List Pc} {b : Pc} (h : bs[j]? = some b) : (markPc k (bs.take j) ++ bs.drop j)[j]? = some b := by
  have hj : j < bs.length := (List.getElem?_eq_some_iff.1 h).1
  rw [List.getElem?_append_right (by rw [markPc_len, List.length_take]; omega), markPc_len, List.length_take, List.getElem?_drop, show j + (j - min j bs.length) = j from by omega]
  exact h
theorem mixed_set {k j : Nat} {bs : List Pc} {b b' : Pc} (h : bs[j]? = some b) : (markPc k (bs.take j) ++ bs.drop j).set j b' = markPc k (bs.take j) ++ [b'] ++ bs.drop (j + 1) := by
  have hj : j < bs.length := (List.getElem?_eq_some_iff.1 h).1
  rw [List.set_append_right _ _ (by rw [markPc_len, List.length_take]; omega), markPc_len, List.length_take, show j - min j bs.length = 0 from by omega, drop_cons' h, List.set_cons_zero, List.append_assoc]
  rfl

set_option maxHeartbeats 2000000 in
theorem c_markPctS (lo hi : Nat) (A : Option Addr) (n c k : Nat) (bs : List Pc) (hs : List Hd) (w : World) (h : OwnRecs pcRec 66 35 w lo hi A n c bs hs) (hk : 1 ≤ k) (hb : cntPc k bs ≤ 10000000000000) :
    Calls Try.prog 26 #[.slice A n c, .int .i64 (k : Int)] w fun e w' => e = .returned (.int .i64 ((cntPc k bs : Nat) : Int)) ∧ Span lo hi w w' ∧ OwnRecs pcRec 66 35 w' lo hi A n c (markPc k bs) hs := by
  have hlc := h.recs.le
  have hcm := h.recs.max
  have hxl := Lib.hid h.xlen
  have Hb := Lib.hid hb
  clear hb
  go_enter Try.func26, Try.ntmps26
  go_wp2
  go_loopw [1, 5] (fun a i wr => ∃ (j : Nat), j ≤ n ∧ i = .int .i64 (j : Int) ∧ a = .int .i64 ((cntPc k (bs.take j) : Nat) : Int) ∧ OwnRecs pcRec 66 35 wr lo hi A n c (markPc k (bs.take j) ++ bs.drop j) hs ∧ Span lo hi w wr) (fun _ i _ => n - (intOf i).toNat)
  case atStart => exact ⟨0, Nat.zero_le _, rfl, rfl, by simpa [markPc] using h, Span.refl _ _ _⟩
  case round =>
    obtain ⟨j, hj, rfl, rfl, hown, hG⟩ := hrel
    by_cases hlt : j < n
    · obtain ⟨⟨id, ps⟩, hx⟩ : ∃ b, bs[j]? = some b := ⟨bs[j]'(by rw [hxl.out]; exact hlt), List.getElem?_eq_getElem _⟩
      have hst := cntPc_step (k := k) hx
      have hmk := markPc_step (k := k) hx
      have hbd : cntPc k (bs.take (j + 1)) ≤ 10000000000000 := Nat.le_trans (cntPc_mono bs) Hb.out
      have hge := cntPc_ge k (bs.take j)
      obtain ⟨K, hK⟩ : ∃ K : Nat, cntPc k (bs.take j) = K := ⟨_, rfl⟩
      rw [hK] at hst hmk hge
      rw [hK]
      have hK1 : 1 ≤ K := by omega
      have hmx := mixed_at (k := k) hx
      obtain ⟨g, rfl, hg0, hg1⟩ := own_addr1 hown.row (by omega)
      obtain ⟨d, hd⟩ : ∃ d, hs[j]? = some d := ⟨hs[j]'(by rw [hown.len]; exact (List.getElem?_eq_some_iff.1 hmx).1), List.getElem?_eq_getElem _⟩
      have m0 : wr.cell? ⟨g, j * 2, none⟩ = some (.int .i64 id) := hown.cell (j := 0) rfl hmx hd (by show 0 < 2; omega)
      have m1 : wr.cell? ⟨g, j * 2 + 1, none⟩ = some (.slice d.1 ps.length d.2) := hown.cell (j := 1) rfl hmx hd (by show 1 < 2; omega)
      have f0 := hown.row.frozenAt (j * 2)
      obtain ⟨o2, s2⟩ := hown.setField (k := j) (j := 0) (x := (id, ps)) (x' := (((K : Nat) : Int), ps)) (u := .int .i64 ((K : Nat) : Int)) rfl hmx (by show 0 < 1; omega) rfl rfl
      have hmx2 : ((markPc k (bs.take j) ++ bs.drop j).set j (((K : Nat) : Int), ps))[j]? = some (((K : Nat) : Int), ps) := List.getElem?_set_self (List.getElem?_eq_some_iff.1 hmx).1
      have hpl := o2.piles j _ d hmx2 hd
      have hbd2 : (K + 1) + 2 * ps.length ≤ 10000000000000 := by have : ((id, ps) : Pc).2.length = ps.length := rfl; omega
      have hcall := c_markPileS lo d.1 ps.length d.2 (K + 1) ps _ hpl rfl (by omega) hbd2
      rw [show ((K + 1 : Nat) : Int) = (K : Int) + 1 from by omega] at hcall
      have S12 := s2
      have Hc := Lib.hid hcall
      have O2 := Lib.hid o2
      have Hst := Lib.hid hst
      have Hmk := Lib.hid hmk
      have Hmx := Lib.hid hmx
      have Hmx2 := Lib.hid hmx2
      have HdD := Lib.hid hd
      have Hx := Lib.hid hx
      have HK := Lib.hid hK
      have hKb : K + 1 ≤ 10000000000000 := by omega
      have hj' : (j : Int) < (n : Int) := by omega
      have hj0 : (0 : Int) ≤ (j : Int) := by omega
      obtain ⟨N, hN⟩ : ∃ N, ps.length = N := ⟨_, rfl⟩
      have HN := Lib.hid hN
      rw [hN] at m1 Hc hbd2
      obtain ⟨A', c'⟩ := d
      clear hcall o2 hst hmk hmx hmx2 hd hx hK hN hpl hown
      go_wp2_with fail
      refine Hc.out.mono ?_
      rintro e w3 ⟨rfl, hg3, hp3⟩
      obtain ⟨o3, s3⟩ := O2.out.setPiles (k := j) (x := ((K : Int), ps)) (x' := ((K : Int), markPl (K + 1) ps.length)) (d := (A', c')) Hmx2.out HdD.out rfl (markPl_len _ _) (by show World.grownBy _ _ (Value.slice A' ps.length c').ownBlock; rw [HN.out]; exact hg3) (by
        show World.ownsRow _ _ _ _ (Value.slice A' ps.length c') ps.length (cellsOf plCells (markPl (K + 1) ps.length))
        rw [HN.out]
        exact hp3)
      rw [List.set_set, mixed_set Hx.out] at o3
      have hfin : Hid (OwnRecs pcRec 66 35 w3 lo hi (some ⟨g, 0, none⟩) n c (markPc k (bs.take (j + 1)) ++ bs.drop (j + 1)) hs) := Lib.hid (by
        rw [Hmk.out]
        exact o3)
      have S3 := (hG.trans S12).trans s3
      have hcn : Hid (cntPc k (bs.take (j + 1)) = K + 1 + 2 * N) := Lib.hid (by rw [Hst.out, ← HN.out])
      clear o3 s3 hg3 hp3 Hc O2 S12 hG
      go_wp2
      go_roundw
      case rel => exact ⟨j + 1, by omega, by go_num, by rw [hcn.out]; go_num, hfin.out, S3⟩
      case measure => simp [intOf]; omega
    · obtain rfl : j = n := by omega
      have h1 : Hid (bs.take j = bs) := Lib.hid (List.take_of_length_le (by rw [hxl.out]; exact Nat.le_refl _))
      have h2 : Hid (bs.drop j = []) := Lib.hid (List.drop_of_length_le (by rw [hxl.out]; exact Nat.le_refl _))
      rw [h1.out, h2.out, List.append_nil] at hown
      rw [h1.out]
      go_wp2
      go_ret
      exact ⟨rfl, hG, hown⟩

set_option maxHeartbeats 2000000 in
theorem c_heldPctS (lo : Nat) (A : Option Addr) (n c k : Nat) (bs : List Pc) (w : World) (h : Pcts w lo A n c (markPc k bs)) (hk : 1 ≤ k) (hb : cntPc k bs ≤ 10000000000000) :
    Calls Try.prog 43 #[.slice A n c, .int .i64 (k : Int)] w fun e w' => e = .returned (.int .i64 ((cntPc k bs : Nat) : Int)) ∧ w.grownBy w' none := by
  have hlc := h.le
  have hcm := h.max
  have hxl := Lib.hid (show bs.length = n from by have := h.len; rwa [markPc_len] at this)
  have Hb := Lib.hid hb
  clear hb
  go_enter Try.func43, Try.ntmps43
  go_wp2
  go_loopw [1, 5] (fun a i wr => ∃ (j : Nat), j ≤ n ∧ i = .int .i64 (j : Int) ∧ a = .int .i64 ((cntPc k (bs.take j) : Nat) : Int) ∧ w.grownBy wr none) (fun _ i _ => n - (intOf i).toNat)
  case atStart => exact ⟨0, Nat.zero_le _, rfl, rfl, gb_refl _ _⟩
  case round =>
    obtain ⟨j, hj, rfl, rfl, hG⟩ := hrel
    by_cases hlt : j < n
    · obtain ⟨⟨id, ps⟩, hx⟩ : ∃ b, bs[j]? = some b := ⟨bs[j]'(by rw [hxl.out]; exact hlt), List.getElem?_eq_getElem _⟩
      have hst := cntPc_step (k := k) hx
      have hbd : cntPc k (bs.take (j + 1)) ≤ 10000000000000 := Nat.le_trans (cntPc_mono bs) Hb.out
      have hge := cntPc_ge k (bs.take j)
      have hmkat : (markPc k bs)[j]? = some (((cntPc k (bs.take j) : Nat) : Int), markPl (cntPc k (bs.take j) + 1) ps.length) := by
        have h1 : markPc k bs = markPc k (bs.take (j + 1)) ++ markPc (cntPc k (bs.take (j + 1))) (bs.drop (j + 1)) := by rw [← markPc_append, List.take_append_drop]
        rw [h1, markPc_step hx, List.append_assoc, List.getElem?_append_right (by rw [markPc_len, List.length_take]; omega), markPc_len, List.length_take, show j - min j bs.length = 0 from by have := hxl.out; omega]
        rfl
      obtain ⟨K, hK⟩ : ∃ K : Nat, cntPc k (bs.take j) = K := ⟨_, rfl⟩
      rw [hK] at hst hmkat hge
      rw [hK]
      have hK1 : 1 ≤ K := by omega
      obtain ⟨b, off, i2, p2, A', c', rfl, hp, hps, m0, m1⟩ := Pcts.at_ (Recs.keep0 h hG) hlt
      have he := hp.out
      rw [hmkat] at he
      injection he with he
      injection he with e1 e3
      subst e1 e3
      rw [markPl_len] at hps m1
      have hbd2 : (K + 1) + 2 * ps.length ≤ 10000000000000 := by have : ((id, ps) : Pc).2.length = ps.length := rfl; omega
      have hcall := c_heldPileS lo A' ps.length c' (K + 1) _ hps (by omega) hbd2
      rw [show ((K + 1 : Nat) : Int) = (K : Int) + 1 from by omega] at hcall
      have Hc := Lib.hid hcall
      have Hst := Lib.hid hst
      have hKb : K + 1 ≤ 10000000000000 := by omega
      have hj' : (j : Int) < (n : Int) := by omega
      have hj0 : (0 : Int) ≤ (j : Int) := by omega
      obtain ⟨N, hN⟩ : ∃ N, ps.length = N := ⟨_, rfl⟩
      have HN := Lib.hid hN
      rw [hN] at m1 Hc hbd2
      have q0 : ((K : Int) != (K : Int)) = false := by simp
      clear hcall hst hmkat hp hx hK hN hps
      go_wp2_with fail
      refine Hc.out.mono ?_
      rintro e w3 ⟨rfl, hg3⟩
      have hcn : Hid (cntPc k (bs.take (j + 1)) = K + 1 + 2 * N) := Lib.hid (by rw [Hst.out, ← HN.out])
      have hnn : ¬ ((K + 1 + 2 * N : Nat) : Int) < 0 := by omega
      clear Hc
      go_wp2
      go_roundw
      case rel => exact ⟨j + 1, by omega, by go_num, by rw [hcn.out]; go_num, gb_trans hG hg3⟩
      case measure => simp [intOf]; omega
    · obtain rfl : j = n := by omega
      have h1 : Hid (bs.take j = bs) := Lib.hid (List.take_of_length_le (by rw [hxl.out]; exact Nat.le_refl _))
      rw [h1.out]
      go_wp2
      go_ret
      exact ⟨rfl, hG⟩
end Go.Proofs.Ytifmljckmjnpfaa
