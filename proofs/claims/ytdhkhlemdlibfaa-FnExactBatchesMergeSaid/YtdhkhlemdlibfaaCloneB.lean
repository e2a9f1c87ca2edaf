/-
  slices.Clone of piles and of batches; batchesCopy of the program.
-/
import Derived.Test.YtdhkhlemdlibfaaLive
import Derived.Test.YtdhkhlemdlibfaaAppAll
import Derived.Test.YtdhkhlemdlibfaaPut
import Derived.Test.YtdhkhlemdlibfaaOwn
import Derived.Lib.SliceRun
namespace Go.Proofs.Ytdhkhlemdlibfaa
open Go.RowKit
set_option linter.unusedVariables false

set_option maxHeartbeats 400000 in
set_option maxRecDepth 100000 in
theorem c_ClonePile (lo : Nat) (A : Option Addr) (n cap : Nat) (ps : List Pl) (w : World) (h : Piles w lo A n cap ps) (hn : n ≤ 2000000) :
    Calls Try.prog 44 #[.slice A n cap] w fun e w' => ∃ B c, e = .returned (.slice B n c) ∧ w.grownBy w' none ∧ w'.ownsRow w.heap.size 55 2 (.slice B n c) n (cellsOf plCells ps) := by
  have hga := gb_alloc (gb_refl w none) (.cells #[] 55)
  have hz := hga.size
  have hpl := h.len
  cases A with
  | none =>
    obtain rfl := h.none_zero rfl
    have hp0 : ps = [] := List.eq_nil_of_length_eq_zero hpl
    subst hp0
    have hq := Lib.run_eql_slice_nil (P := Try.prog) w 32 55 none 0 cap 0 0 Try.underlying32
    go_enter Try.func44, Try.ntmps44
    go_wp2_with (simp only [hq, Option.isNone])
    go_ret
    exact ⟨none, 0, rfl, gb_refl _ _, own_nil _ _ _ _⟩
  | some a =>
    clear hpl
    have hq := Lib.run_eql_slice_nil (P := Try.prog) w 32 55 (some a) n cap 0 0 Try.underlying32
    go_enter Try.func44, Try.ntmps44
    go_wp2_with (first | (simp only [hq, Option.isNone]) | (at_builtin; refine wpList_appAll pileE rfl _ _ rfl w.heap.size lo 0 n cap _ [] _ (some a) rfl (own_empty _ _ _ _ (Nat.le_refl _)) rfl (h.keep0 hga) plCells_one (by omega) (by omega) hz ?_; intro B' c' w3 hown3 hb3 hg3 hat3; rw [Nat.zero_add] at hown3 hat3 ⊢))
    go_ret
    exact ⟨B', c', rfl, gb_of_below ((gb_below hga).trans hb3) none, hown3⟩

theorem bt_one {zs : List (Bt × Hd)} : ∀ u ∈ cellsOf btRec.cells zs, u.oneCell' = true := by
  induction zs with
  | nil => intro u hu; cases hu
  | cons z zs ih =>
    intro u hu
    rw [cellsOf_cons] at hu
    rcases List.mem_append.1 hu with hu | hu
    · unfold Rec.cells at hu
      rcases List.mem_append.1 hu with hu | hu
      · simp [btRec] at hu
        rcases hu with rfl | rfl <;> rfl
      · rw [List.mem_singleton.1 hu]; rfl
    · exact ih u hu
theorem sl_none {w : World} {lo size n cap : Nat} {A : Option Addr} {cs : List Value} (h : Sl w lo size A n cap cs) (e : A = none) : n = 0 := by
  rcases Nat.eq_zero_or_pos n with h0 | h0
  · exact h0
  · obtain ⟨b, off, h1, _⟩ := h.2.2.2 h0
    rw [e] at h1
    cases h1

set_option maxHeartbeats 400000 in
set_option maxRecDepth 100000 in
theorem c_CloneBatch (lo : Nat) (A : Option Addr) (n cap : Nat) (zs : List (Bt × Hd)) (w : World) (h : Sl w lo 3 A n cap (cellsOf btRec.cells zs)) (hzl : zs.length = n) (hn : n ≤ 1500000) :
    Calls Try.prog 43 #[.slice A n cap] w fun e w' => ∃ B c, e = .returned (.slice B n c) ∧ w.grownBy w' none ∧ w'.ownsRow w.heap.size 34 3 (.slice B n c) n (cellsOf btRec.cells zs) := by
  have hga := gb_alloc (gb_refl w none) (.cells #[] 34)
  have hz := hga.size
  cases A with
  | none =>
    obtain rfl := sl_none h rfl
    have hp0 : zs = [] := List.eq_nil_of_length_eq_zero hzl
    subst hp0
    have hq := Lib.run_eql_slice_nil (P := Try.prog) w 23 34 none 0 cap 0 0 Try.underlying23
    go_enter Try.func43, Try.ntmps43
    go_wp2_with (simp only [hq, Option.isNone])
    go_ret
    exact ⟨none, 0, rfl, gb_refl _ _, own_nil _ _ _ _⟩
  | some a =>
    clear hzl
    have hq := Lib.run_eql_slice_nil (P := Try.prog) w 23 34 (some a) n cap 0 0 Try.underlying23
    go_enter Try.func43, Try.ntmps43
    go_wp2_with (first | (simp only [hq, Option.isNone]) | (at_builtin; refine wpList_appAll batchE rfl _ _ rfl w.heap.size lo 0 n cap _ [] _ (some a) rfl (own_empty _ _ _ _ (Nat.le_refl _)) rfl (h.keep0 hga) bt_one (by omega) (by omega) hz ?_; intro B' c' w3 hown3 hb3 hg3 hat3; rw [Nat.zero_add] at hown3 hat3 ⊢))
    go_ret
    exact ⟨B', c', rfl, gb_of_below ((gb_below hga).trans hb3) none, hown3⟩

/-- The first k batches have piles of their own. -/
structure CopyTo (w0 w : World) (B : Option Addr) (n c k : Nat) (bs : List Bt) (old hs : List Hd) : Prop where
  len : hs.length = k
  row : w.ownsRow w0.heap.size 34 3 (.slice B n c) n (cellsOf btRec.cells (bs.zip (hs ++ old.drop k)))
  piles : ∀ (i : Nat) (x : Bt) (h : Hd), bs[i]? = some x → hs[i]? = some h → w.ownsRow w0.heap.size 55 2 (.slice h.1 x.2.2.length h.2) x.2.2.length (cellsOf plCells x.2.2)
  apart : Apart ((Value.slice B n c).ownBlock :: hs.map hdBlk)
  bnd : ∀ g, some g ∈ (Value.slice B n c).ownBlock :: hs.map hdBlk → w0.heap.size ≤ g ∧ g < w.heap.size
theorem zip_set2 {α β : Type} {a : List α} {b : List β} {k : Nat} {x : α} {y : β} (hx : a[k]? = some x) : a.zip (b.set k y) = (a.zip b).set k (x, y) := by
  induction a generalizing b k with
  | nil => simp at hx
  | cons z a ih =>
    cases b with
    | nil => simp
    | cons c b =>
      cases k with
      | zero => simp at hx; subst hx; simp
      | succ k => simp [ih (b := b) (k := k) (by simpa using hx)]
theorem CopyTo.step {w0 w w1 : World} {B : Option Addr} {n c k g : Nat} {bs : List Bt} {old hs : List Hd} {x : Bt} {h : Hd} (hC : CopyTo w0 w B n c k bs old hs) (hB : B = some ⟨g, 0, none⟩) (hx : bs[k]? = some x) (hol : old.length = bs.length)
    (hg : w.grownBy w1 none) (ho : w1.ownsRow w.heap.size 55 2 (.slice h.1 x.2.2.length h.2) x.2.2.length (cellsOf plCells x.2.2)) :
    CopyTo w0 (w1.setCell ⟨g, k * 3 + 2, none⟩ (.slice h.1 x.2.2.length h.2)) B n c (k + 1) bs old (hs ++ [h]) ∧ w1.grownBy (w1.setCell ⟨g, k * 3 + 2, none⟩ (.slice h.1 x.2.2.length h.2)) (some g) := by
  subst hB
  have hkx : k < bs.length := (List.getElem?_eq_some_iff.1 hx).1
  have hrow1 := own_below hC.row hg
  obtain ⟨hst, hgs⟩ := hrow1.stored (k * 3 + 2) (.slice h.1 x.2.2.length h.2)
  have hdb : (Value.slice h.1 x.2.2.length h.2).ownBlock = hdBlk h := ownBlock_any _ _ _ _ _
  have hnew : ∀ b, hdBlk h = some b → w.heap.size ≤ b ∧ b < w1.heap.size := fun b e => ho.lt b (by rw [hdb]; exact e)
  have hgB := hC.bnd g (by simp [Value.ownBlock])
  obtain ⟨o, ho1⟩ : ∃ o, old[k]? = some o := ⟨_, List.getElem?_eq_getElem (by omega)⟩
  have hat : (hs ++ old.drop k)[k]? = some o := by
    rw [List.getElem?_append_right (by rw [hC.len]; exact Nat.le_refl _), hC.len, Nat.sub_self, List.getElem?_drop, Nat.add_zero]
    exact ho1
  have hset : (hs ++ old.drop k).set k h = (hs ++ [h]) ++ old.drop (k + 1) := by
    rw [List.set_append_right _ _ (by rw [hC.len]; exact Nat.le_refl _), hC.len, Nat.sub_self, drop_cons' ho1, List.set_cons_zero, List.append_assoc]
    rfl
  refine ⟨⟨by simp [hC.len], ?_, fun i y d hy hd => ?_, ?_, fun b hb => ?_⟩, hgs⟩
  · rw [← hset, zip_set2 hx]
    have hz : (bs.zip (hs ++ old.drop k))[k]? = some (x, o) := by rw [List.getElem?_zip_eq_some]; exact ⟨hx, hat⟩
    rw [cellsOf_set (j := 2) (u := .slice h.1 x.2.2.length h.2) btRec.cells_len hz (by show 2 < 3; omega) (by rfl)]
    exact hst
  · rcases snoc_at hd with ⟨a1, a2⟩ | ⟨a1, a2⟩
    · refine (own_below (hC.piles i y d hy a2) hg).kept hgs ?_
      have := apart_at hC.apart (i := i + 1) (j := 0) (a := hdBlk d) (by simp [a2]) rfl (by omega)
      rwa [hdBlk, ownBlock_any d.1 0 y.2.2.length d.2 d.2] at this
    · rw [hC.len] at a1
      subst a1 a2
      rw [hx] at hy
      injection hy with hy
      subst hy
      refine (own_lo ho (by omega)).kept hgs ?_
      rw [hdb]
      cases e : hdBlk d with
      | none => exact .inl rfl
      | some b =>
        refine .inr (fun e' => ?_)
        injection e' with e'
        have := (hnew b e).1
        omega
  · rw [List.map_append, List.map_singleton, ← List.cons_append]
    refine apart_push hC.apart (fun a ha => ?_)
    cases a with
    | none => exact .inl rfl
    | some b =>
      refine .inr (fun e => ?_)
      have := (hC.bnd b ha).2
      have := (hnew b e.symm).1
      omega
  · rw [List.map_append, List.map_singleton, ← List.cons_append] at hb
    have hs1 := hg.size
    have hs2 := hgs.size
    rcases List.mem_append.1 hb with hb | hb
    · have := hC.bnd b hb; omega
    · have := hnew b (List.mem_singleton.1 hb).symm
      omega
theorem CopyTo.old_at {w0 w : World} {B : Option Addr} {n c k g : Nat} {bs : List Bt} {old hs : List Hd} {x : Bt} {o : Hd} (hC : CopyTo w0 w B n c k bs old hs) (hB : B = some ⟨g, 0, none⟩) (hk : k < n) (hx : bs[k]? = some x) (ho : old[k]? = some o) :
    w.cell? ⟨g, k * 3 + 2, none⟩ = some (.slice o.1 x.2.2.length o.2) := by
  subst hB
  have hat : (hs ++ old.drop k)[k]? = some o := by
    rw [List.getElem?_append_right (by rw [hC.len]; exact Nat.le_refl _), hC.len, Nat.sub_self, List.getElem?_drop, Nat.add_zero]
    exact ho
  have hz : (bs.zip (hs ++ old.drop k))[k]? = some (x, o) := by rw [List.getElem?_zip_eq_some]; exact ⟨hx, hat⟩
  rw [hC.row.cellAt _ (by omega)]
  exact cellsOf_at btRec.cells_len hz (j := 2) (by show 2 < 3; omega)

set_option maxHeartbeats 1000000 in
theorem c_batchesCopy (lo : Nat) (A : Option Addr) (n cap : Nat) (bs : List Bt) (w : World) (h : Bats w lo A n cap bs) (hn : n ≤ 1500000) (hp : ∀ b ∈ bs, b.2.2.length ≤ 2000000) :
    Calls Try.prog 23 #[.slice A n cap] w fun e w' => ∃ B c hs, e = .returned (.slice B n c) ∧ w.grownBy w' none ∧ OwnRecs btRec 55 34 w' w.heap.size w'.heap.size B n c bs hs := by
  have hxl := Lib.hid h.len
  have Hp := Lib.hid hp
  clear hp
  obtain ⟨old, hol, hsl, hpl⟩ := h
  have hzl : (bs.zip old).length = n := by rw [List.length_zip, hol, hxl.out]; simp
  have Hpl := Lib.hid hpl
  clear hpl
  go_enter Try.func23, Try.ntmps23
  go_wp2_with fail
  refine (c_CloneBatch lo A n cap (bs.zip old) _ hsl hzl hn).mono ?_
  rintro e w1 ⟨B, c, rfl, hg1, ho1⟩
  have hlc := (Sl.own ho1).le
  have hcm := (Sl.own ho1).max
  have hC0 : CopyTo w w1 B n c 0 bs old [] := ⟨rfl, by rw [List.nil_append, List.drop_zero]; exact ho1, fun i x h _ hh => by simp at hh, by simp [Apart], fun g hg => by
    rw [List.map_nil] at hg
    exact ho1.lt g (List.mem_singleton.1 hg).symm⟩
  clear ho1 hsl hzl
  go_wp2
  go_loopw [9] (fun i wr => ∃ (k : Nat) (hs : List Hd), k ≤ n ∧ i = .int .i64 k ∧ w.grownBy wr none ∧ CopyTo w wr B n c k bs old hs) (fun i _ => n - (intOf i).toNat)
  case atStart => exact ⟨0, [], Nat.zero_le _, rfl, hg1, hC0⟩
  case round =>
    clear hC0
    obtain ⟨k, hs, hk, rfl, hG, hC⟩ := hrel
    rename World => wr
    by_cases hlt : k < n
    · have hk' : (k : Int) < (n : Int) := by omega
      have hk0 : (0 : Int) ≤ (k : Int) := by omega
      obtain ⟨x, hx⟩ : ∃ x, bs[k]? = some x := ⟨_, List.getElem?_eq_getElem (by rw [hxl.out]; exact hlt)⟩
      obtain ⟨o, ho⟩ : ∃ o, old[k]? = some o := ⟨_, List.getElem?_eq_getElem (by rw [hol, hxl.out]; exact hlt)⟩
      obtain ⟨g, rfl, hgl, hgh⟩ := own_addr2 hC.row (by omega)
      have m2 := hC.old_at rfl hlt hx ho
      have hps := (Hpl.out k x o hx ho).keep0 hG
      have hcall := c_ClonePile lo o.1 x.2.2.length o.2 x.2.2 wr hps (Hp.out x (List.mem_of_getElem? hx))
      have hfr := fun (y : World) (hy : wr.grownBy y none) => (own_below hC.row hy).frozenAt (k * 3 + 2)
      have Hstep := Lib.hid (fun (y : World) (hd : Hd) (hy : wr.grownBy y none) (hoy : y.ownsRow wr.heap.size 55 2 (.slice hd.1 x.2.2.length hd.2) x.2.2.length (cellsOf plCells x.2.2)) => hC.step (h := hd) rfl hx hol hy hoy)
      have Hfr := Lib.hid hfr
      obtain ⟨N, hN⟩ : ∃ N, x.2.2.length = N := ⟨_, rfl⟩
      rw [hN] at m2 hcall Hstep
      obtain ⟨oA, oc⟩ := o
      have Hc := Lib.hid hcall
      have hcl : w.heap.size ≤ g := hgl
      clear hcall hfr hx ho hps hN hC
      go_wp2_with fail
      refine Hc.out.mono ?_
      rintro e w2 ⟨B2, c2, rfl, hg2, ho2⟩
      obtain ⟨hC2, hg3⟩ := Hstep.out w2 (B2, c2) hg2 ho2
      have f2 := Hfr.out w2 hg2
      have n2 := gb_cell hg2 m2 (by simp)
      clear Hc
      go_wp2
      go_roundw
      case rel => exact ⟨k + 1, _, by omega, by go_num, gb_setCell (gb_trans hG hg2) (.inr hcl) _, hC2⟩
      case measure => simp [intOf]; omega
    · obtain rfl : k = n := by omega
      have hfin : OwnRecs btRec 55 34 wr w.heap.size wr.heap.size B k c bs hs := by
        have hr := hC.row
        rw [List.drop_of_length_le (by rw [hol, hxl.out]; exact Nat.le_refl _), List.append_nil] at hr
        exact ⟨by rw [hC.len, hxl.out], hr, hC.piles, hC.apart, fun g hg => (hC.bnd g hg).2⟩
      clear hC
      go_wp2
      go_ret
      exact ⟨B, c, hs, rfl, hG, hfin⟩
end Go.Proofs.Ytdhkhlemdlibfaa
