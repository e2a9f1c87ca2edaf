/-
  How the laws mark batches and see whether they are still marked.
-/
import Derived.Test.YtdhkhlemdlibfaaMarkPiles
namespace Go.Proofs.Ytdhkhlemdlibfaa
open Go.RowKit
set_option linter.unusedVariables false

/-- What a mark of batches counts to. -/
def cntBt (k : Nat) : List Bt → Nat
  | [] => k
  | b :: bs => cntBt (k + 2 + 2 * b.2.2.length) bs
def markBt (k : Nat) : List Bt → List Bt
  | [] => []
  | b :: bs => (((k : Nat) : Int), (k : Int) + 1, markPl (k + 2) b.2.2.length) :: markBt (k + 2 + 2 * b.2.2.length) bs
theorem cntBt_append (k : Nat) (a b : List Bt) : cntBt k (a ++ b) = cntBt (cntBt k a) b := by
  induction a generalizing k with
  | nil => rfl
  | cons x a ih => exact ih _
theorem markBt_append (k : Nat) (a b : List Bt) : markBt k (a ++ b) = markBt k a ++ markBt (cntBt k a) b := by
  induction a generalizing k with
  | nil => rfl
  | cons x a ih => rw [List.cons_append, markBt, markBt, cntBt, ih]; rfl
theorem markBt_len (k : Nat) (a : List Bt) : (markBt k a).length = a.length := by
  induction a generalizing k with
  | nil => rfl
  | cons x a ih => rw [markBt, List.length_cons, List.length_cons, ih]
theorem cntBt_ge (k : Nat) (a : List Bt) : k ≤ cntBt k a := by
  induction a generalizing k with
  | nil => exact Nat.le_refl _
  | cons x a ih => rw [cntBt]; exact Nat.le_trans (by omega) (ih _)
theorem cntBt_step {k j : Nat} {bs : List Bt} {b : Bt} (h : bs[j]? = some b) : cntBt k (bs.take (j + 1)) = cntBt k (bs.take j) + 2 + 2 * b.2.2.length := by
  rw [take_succ_of h, cntBt_append]; rfl
theorem markBt_step {k j : Nat} {bs : List Bt} {b : Bt} (h : bs[j]? = some b) : markBt k (bs.take (j + 1)) = markBt k (bs.take j) ++ [(((cntBt k (bs.take j) : Nat) : Int), ((cntBt k (bs.take j) : Nat) : Int) + 1, markPl (cntBt k (bs.take j) + 2) b.2.2.length)] := by
  rw [take_succ_of h, markBt_append]; rfl
theorem cntBt_mono {k j : Nat} (bs : List Bt) : cntBt k (bs.take j) ≤ cntBt k bs := by
  have h := cntBt_append k (bs.take j) (bs.drop j)
  rw [List.take_append_drop] at h
  rw [h]
  exact cntBt_ge _ _
theorem cntBt_le (k N M : Nat) (bs : List Bt) (hl : bs.length ≤ N) (hb : ∀ b ∈ bs, b.2.2.length ≤ M) : cntBt k bs ≤ k + N * (2 + 2 * M) := by
  induction bs generalizing k N with
  | nil => exact Nat.le_add_right _ _
  | cons b bs ih =>
    cases N with
    | zero => simp at hl
    | succ N =>
      have h1 := ih (k + 2 + 2 * b.2.2.length) N (by simpa using hl) (fun x hx => hb x (List.mem_cons_of_mem _ hx))
      have h2 := hb b (by simp)
      have h3 : 2 + 2 * b.2.2.length ≤ 2 + 2 * M := by omega
      show cntBt (k + 2 + 2 * b.2.2.length) bs ≤ _
      have h4 : (N + 1) * (2 + 2 * M) = N * (2 + 2 * M) + (2 + 2 * M) := Nat.succ_mul _ _
      omega
/-- The batch that comes next is as it was. -/
theorem mixed_at {k j : Nat} {bs : List Bt} {b : Bt} (h : bs[j]? = some b) : (markBt k (bs.take j) ++ bs.drop j)[j]? = some b := by
  have hj : j < bs.length := (List.getElem?_eq_some_iff.1 h).1
  rw [List.getElem?_append_right (by rw [markBt_len, List.length_take]; omega), markBt_len, List.length_take, List.getElem?_drop, show j + (j - min j bs.length) = j from by omega]
  exact h
theorem mixed_set {k j : Nat} {bs : List Bt} {b b' : Bt} (h : bs[j]? = some b) : (markBt k (bs.take j) ++ bs.drop j).set j b' = markBt k (bs.take j) ++ [b'] ++ bs.drop (j + 1) := by
  have hj : j < bs.length := (List.getElem?_eq_some_iff.1 h).1
  rw [List.set_append_right _ _ (by rw [markBt_len, List.length_take]; omega), markBt_len, List.length_take, show j - min j bs.length = 0 from by omega, drop_cons' h, List.set_cons_zero, List.append_assoc]
  rfl

set_option maxHeartbeats 2000000 in
theorem c_markBatchS (lo hi : Nat) (A : Option Addr) (n c k : Nat) (bs : List Bt) (hs : List Hd) (w : World) (h : OwnRecs btRec 55 34 w lo hi A n c bs hs) (hk : 1 ≤ k) (hb : cntBt k bs ≤ 10000000000000) :
    Calls Try.prog 17 #[.slice A n c, .int .i64 (k : Int)] w fun e w' => e = .returned (.int .i64 ((cntBt k bs : Nat) : Int)) ∧ Span lo hi w w' ∧ OwnRecs btRec 55 34 w' lo hi A n c (markBt k bs) hs := by
  have hlc := h.recs.le
  have hcm := h.recs.max
  have hxl := Lib.hid h.xlen
  have Hb := Lib.hid hb
  clear hb
  go_enter Try.func17, Try.ntmps17
  go_wp2
  go_loopw [1, 5] (fun a i wr => ∃ (j : Nat), j ≤ n ∧ i = .int .i64 (j : Int) ∧ a = .int .i64 ((cntBt k (bs.take j) : Nat) : Int) ∧ OwnRecs btRec 55 34 wr lo hi A n c (markBt k (bs.take j) ++ bs.drop j) hs ∧ Span lo hi w wr) (fun _ i _ => n - (intOf i).toNat)
  case atStart => exact ⟨0, Nat.zero_le _, rfl, rfl, by simpa [markBt] using h, Span.refl _ _ _⟩
  case round =>
    obtain ⟨j, hj, rfl, rfl, hown, hG⟩ := hrel
    by_cases hlt : j < n
    · obtain ⟨⟨id, over, ps⟩, hx⟩ : ∃ b, bs[j]? = some b := ⟨bs[j]'(by rw [hxl.out]; exact hlt), List.getElem?_eq_getElem _⟩
      have hst := cntBt_step (k := k) hx
      have hmk := markBt_step (k := k) hx
      have hbd : cntBt k (bs.take (j + 1)) ≤ 10000000000000 := Nat.le_trans (cntBt_mono bs) Hb.out
      have hge := cntBt_ge k (bs.take j)
      obtain ⟨K, hK⟩ : ∃ K : Nat, cntBt k (bs.take j) = K := ⟨_, rfl⟩
      rw [hK] at hst hmk hge
      rw [hK]
      have hK1 : 1 ≤ K := by omega
      have hmx := mixed_at (k := k) hx
      obtain ⟨g, rfl, hg0, hg1⟩ := own_addr1 hown.row (by omega)
      obtain ⟨d, hd⟩ : ∃ d, hs[j]? = some d := ⟨hs[j]'(by rw [hown.len]; exact (List.getElem?_eq_some_iff.1 hmx).1), List.getElem?_eq_getElem _⟩
      have m0 : wr.cell? ⟨g, j * 3, none⟩ = some (.int .i64 id) := hown.cell (j := 0) rfl hmx hd (by show 0 < 3; omega)
      have m1 : wr.cell? ⟨g, j * 3 + 1, none⟩ = some (.int .i64 over) := hown.cell (j := 1) rfl hmx hd (by show 1 < 3; omega)
      have m2 : wr.cell? ⟨g, j * 3 + 2, none⟩ = some (.slice d.1 ps.length d.2) := hown.cell (j := 2) rfl hmx hd (by show 2 < 3; omega)
      have f0 := hown.row.frozenAt (j * 3)
      have f1 := hown.row.frozenAt (j * 3 + 1)
      obtain ⟨o1, s1⟩ := hown.setField (k := j) (j := 0) (x := (id, over, ps)) (x' := (((K : Nat) : Int), over, ps)) (u := .int .i64 ((K : Nat) : Int)) rfl hmx (by show 0 < 2; omega) rfl rfl
      have hmx1 : ((markBt k (bs.take j) ++ bs.drop j).set j (((K : Nat) : Int), over, ps))[j]? = some (((K : Nat) : Int), over, ps) := List.getElem?_set_self (List.getElem?_eq_some_iff.1 hmx).1
      obtain ⟨o2, s2⟩ := o1.setField (k := j) (j := 1) (x := (((K : Nat) : Int), over, ps)) (x' := (((K : Nat) : Int), (K : Int) + 1, ps)) (u := .int .i64 ((K : Int) + 1)) rfl hmx1 (by show 1 < 2; omega) rfl rfl
      rw [List.set_set] at o2
      have hmx2 : ((markBt k (bs.take j) ++ bs.drop j).set j (((K : Nat) : Int), (K : Int) + 1, ps))[j]? = some (((K : Nat) : Int), (K : Int) + 1, ps) := List.getElem?_set_self (List.getElem?_eq_some_iff.1 hmx).1
      have hpl := o2.piles j _ d hmx2 hd
      have hbd2 : (K + 2) + 2 * ps.length ≤ 10000000000000 := by have : ((id, over, ps) : Bt).2.2.length = ps.length := rfl; omega
      have hcall := c_markPileS lo d.1 ps.length d.2 (K + 2) ps _ hpl rfl (by omega) hbd2
      rw [show ((K + 2 : Nat) : Int) = (K : Int) + 1 + 1 from by omega] at hcall
      have S12 := s1.trans s2
      have Hc := Lib.hid hcall
      have O2 := Lib.hid o2
      have Hst := Lib.hid hst
      have Hmk := Lib.hid hmk
      have Hmx := Lib.hid hmx
      have Hmx2 := Lib.hid hmx2
      have HdD := Lib.hid hd
      have Hx := Lib.hid hx
      have HK := Lib.hid hK
      have hKb : K + 2 ≤ 10000000000000 := by omega
      have hj' : (j : Int) < (n : Int) := by omega
      have hj0 : (0 : Int) ≤ (j : Int) := by omega
      obtain ⟨N, hN⟩ : ∃ N, ps.length = N := ⟨_, rfl⟩
      have HN := Lib.hid hN
      rw [hN] at m2 Hc hbd2
      obtain ⟨A', c'⟩ := d
      clear hcall o1 o2 hst hmk hmx hmx1 hmx2 hd hx hK hN hpl hown
      go_wp2_with fail
      refine Hc.out.mono ?_
      rintro e w3 ⟨rfl, hg3, hp3⟩
      obtain ⟨o3, s3⟩ := O2.out.setPiles (k := j) (x := ((K : Int), (K : Int) + 1, ps)) (x' := ((K : Int), (K : Int) + 1, markPl (K + 2) ps.length)) (d := (A', c')) Hmx2.out HdD.out rfl (markPl_len _ _) (by show World.grownBy _ _ (Value.slice A' ps.length c').ownBlock; rw [HN.out]; exact hg3) (by
        show World.ownsRow _ _ _ _ (Value.slice A' ps.length c') ps.length (cellsOf plCells (markPl (K + 2) ps.length))
        rw [HN.out]
        exact hp3)
      rw [List.set_set, mixed_set Hx.out] at o3
      have hfin : Hid (OwnRecs btRec 55 34 w3 lo hi (some ⟨g, 0, none⟩) n c (markBt k (bs.take (j + 1)) ++ bs.drop (j + 1)) hs) := Lib.hid (by
        rw [Hmk.out]
        exact o3)
      have S3 := (hG.trans S12).trans s3
      have hcn : Hid (cntBt k (bs.take (j + 1)) = K + 2 + 2 * N) := Lib.hid (by rw [Hst.out, ← HN.out])
      clear o3 s3 hg3 hp3 Hc O2 S12 hG
      go_wp2
      go_roundw
      case rel => exact ⟨j + 1, by omega, by go_num, by rw [hcn.out]; go_num, hfin.out, S3⟩
      case measure => simp [intOf]; omega
    · obtain rfl : j = n := by omega
      have h1 : Hid (bs.take j = bs) := Lib.hid (List.take_of_length_le (by rw [hxl.out]; exact Nat.le_refl _))
      have h2 : Hid (bs.drop j = []) := Lib.hid (List.drop_of_length_le (by rw [hxl.out]; exact Nat.le_refl _))
      rw [h1.out, h2.out, List.append_nil] at hown
      rw [h1.out]
      go_wp2
      go_ret
      exact ⟨rfl, hG, hown⟩

set_option maxHeartbeats 2000000 in
theorem c_heldBatchS (lo : Nat) (A : Option Addr) (n c k : Nat) (bs : List Bt) (w : World) (h : Bats w lo A n c (markBt k bs)) (hk : 1 ≤ k) (hb : cntBt k bs ≤ 10000000000000) :
    Calls Try.prog 18 #[.slice A n c, .int .i64 (k : Int)] w fun e w' => e = .returned (.int .i64 ((cntBt k bs : Nat) : Int)) ∧ w.grownBy w' none := by
  have hlc := h.le
  have hcm := h.max
  have hxl := Lib.hid (show bs.length = n from by have := h.len; rwa [markBt_len] at this)
  have Hb := Lib.hid hb
  clear hb
  go_enter Try.func18, Try.ntmps18
  go_wp2
  go_loopw [1, 5] (fun a i wr => ∃ (j : Nat), j ≤ n ∧ i = .int .i64 (j : Int) ∧ a = .int .i64 ((cntBt k (bs.take j) : Nat) : Int) ∧ w.grownBy wr none) (fun _ i _ => n - (intOf i).toNat)
  case atStart => exact ⟨0, Nat.zero_le _, rfl, rfl, gb_refl _ _⟩
  case round =>
    obtain ⟨j, hj, rfl, rfl, hG⟩ := hrel
    by_cases hlt : j < n
    · obtain ⟨⟨id, over, ps⟩, hx⟩ : ∃ b, bs[j]? = some b := ⟨bs[j]'(by rw [hxl.out]; exact hlt), List.getElem?_eq_getElem _⟩
      have hst := cntBt_step (k := k) hx
      have hbd : cntBt k (bs.take (j + 1)) ≤ 10000000000000 := Nat.le_trans (cntBt_mono bs) Hb.out
      have hge := cntBt_ge k (bs.take j)
      have hmkat : (markBt k bs)[j]? = some (((cntBt k (bs.take j) : Nat) : Int), ((cntBt k (bs.take j) : Nat) : Int) + 1, markPl (cntBt k (bs.take j) + 2) ps.length) := by
        have h1 : markBt k bs = markBt k (bs.take (j + 1)) ++ markBt (cntBt k (bs.take (j + 1))) (bs.drop (j + 1)) := by rw [← markBt_append, List.take_append_drop]
        rw [h1, markBt_step hx, List.append_assoc, List.getElem?_append_right (by rw [markBt_len, List.length_take]; omega), markBt_len, List.length_take, show j - min j bs.length = 0 from by have := hxl.out; omega]
        rfl
      obtain ⟨K, hK⟩ : ∃ K : Nat, cntBt k (bs.take j) = K := ⟨_, rfl⟩
      rw [hK] at hst hmkat hge
      rw [hK]
      have hK1 : 1 ≤ K := by omega
      obtain ⟨b, off, i2, o2, p2, A', c', rfl, hp, hps, m0, m1, m2⟩ := Bats.at_ (Recs.keep0 h hG) hlt
      have he := hp.out
      rw [hmkat] at he
      injection he with he
      injection he with e1 he
      injection he with e2 e3
      subst e1 e2 e3
      rw [markPl_len] at hps m2
      have hbd2 : (K + 2) + 2 * ps.length ≤ 10000000000000 := by have : ((id, over, ps) : Bt).2.2.length = ps.length := rfl; omega
      have hcall := c_heldPileS lo A' ps.length c' (K + 2) _ hps (by omega) hbd2
      rw [show ((K + 2 : Nat) : Int) = (K : Int) + 1 + 1 from by omega] at hcall
      have Hc := Lib.hid hcall
      have Hst := Lib.hid hst
      have hKb : K + 2 ≤ 10000000000000 := by omega
      have hj' : (j : Int) < (n : Int) := by omega
      have hj0 : (0 : Int) ≤ (j : Int) := by omega
      obtain ⟨N, hN⟩ : ∃ N, ps.length = N := ⟨_, rfl⟩
      have HN := Lib.hid hN
      rw [hN] at m2 Hc hbd2
      have q0 : ((K : Int) != (K : Int)) = false := by simp
      have q1 : ((K : Int) + 1 != (K : Int) + 1) = false := by simp
      clear hcall hst hmkat hp hx hK hN hps
      go_wp2_with fail
      refine Hc.out.mono ?_
      rintro e w3 ⟨rfl, hg3⟩
      have hcn : Hid (cntBt k (bs.take (j + 1)) = K + 2 + 2 * N) := Lib.hid (by rw [Hst.out, ← HN.out])
      have hnn : ¬ ((K + 2 + 2 * N : Nat) : Int) < 0 := by omega
      clear Hc
      go_wp2
      go_roundw
      case rel => exact ⟨j + 1, by omega, by go_num, by rw [hcn.out]; go_num, gb_trans hG hg3⟩
      case measure => simp [intOf]; omega
    · obtain rfl : j = n := by omega
      have h1 : Hid (bs.take j = bs) := Lib.hid (List.take_of_length_le (by rw [hxl.out]; exact Nat.le_refl _))
      rw [h1.out]
      go_wp2
      go_ret
      exact ⟨rfl, hG⟩
end Go.Proofs.Ytdhkhlemdlibfaa
