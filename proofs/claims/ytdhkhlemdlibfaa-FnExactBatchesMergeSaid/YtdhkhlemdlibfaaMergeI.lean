/-
  BatchesMerge of the program.
-/
import Derived.Test.YtdhkhlemdlibfaaMergeLaw
import Derived.Test.YtdhkhlemdlibfaaBatches
import Derived.Test.YtdhkhlemdlibfaaCloneB
import Derived.Test.YtdhkhlemdlibfaaInsert
import Derived.Test.YtdhkhlemdlibfaaSearch
import Derived.Test.YtdhkhlemdlibfaaOwnInsert
import Derived.Test.YtdhkhlemdlibfaaSameB
namespace Go.Proofs.Ytdhkhlemdlibfaa
open Go.RowKit
set_option linter.unusedVariables false

/-- What a merge leaves. -/
def BmRes (a b : List Bt) (w : World) (e : Ending) (w' : World) : Prop :=
  ∃ D m c hs, e = .returned (.tuple #[.slice D m c, .bool (bmOK a b)]) ∧ w.grownBy w' none ∧ OwnRecs btRec 55 34 w' w.heap.size w'.heap.size D m c (bmRes a b) hs

/-- The loop: the first k of b are merged into out; the copy of b is as it was. -/
structure MgTo (w0 : World) (s1 s2 : Nat) (wr : World) (D : Option Addr) (m c : Nat) (B : Option Addr) (nb cb k : Nat) (a b : List Bt) (hs hb : List Hd) : Prop where
  own : OwnRecs btRec 55 34 wr w0.heap.size wr.heap.size D m c (mgB a (b.take k)) hs
  cpy : OwnRecs btRec 55 34 wr s1 s2 B nb cb b hb
  lst : ∀ g, (Value.slice D m c).ownBlock = some g → g < s1 ∨ s2 ≤ g
  far : ∀ g, some g ∈ hs.map hdBlk → g < s1 ∨ ∃ (j : Nat) (e : Hd), j < k ∧ hb[j]? = some e ∧ hdBlk e = some g

theorem MgTo.keep {w0 : World} {s1 s2 : Nat} {wr w' : World} {D : Option Addr} {m c : Nat} {B : Option Addr} {nb cb k : Nat} {a b : List Bt} {hs hb : List Hd} (h : MgTo w0 s1 s2 wr D m c B nb cb k a b hs hb) (hg : wr.grownBy w' none) : MgTo w0 s1 s2 w' D m c B nb cb k a b hs hb :=
  ⟨(h.own.keep hg).wide (Nat.le_refl _) hg.size, h.cpy.keep hg, h.lst, h.far⟩
theorem MgTo.skip {w0 : World} {s1 s2 : Nat} {wr : World} {D : Option Addr} {m c : Nat} {B : Option Addr} {nb cb k : Nat} {a b : List Bt} {hs hb : List Hd} {x : Bt} (h : MgTo w0 s1 s2 wr D m c B nb cb k a b hs hb) (hx : b[k]? = some x) (ha : AscB a) (hk : knownB (mgB a (b.take k)) x.1 = true) : MgTo w0 s1 s2 wr D m c B nb cb (k + 1) a b hs hb := by
  refine ⟨?_, h.cpy, h.lst, fun g hg => ?_⟩
  · rw [take_succ_of hx, mgB_snoc, insB_known (mgB_asc ha) hk]
    exact h.own
  · rcases h.far g hg with h1 | ⟨j, e, h1, h2⟩
    · exact .inl h1
    · exact .inr ⟨j, e, by omega, h2⟩
theorem MgTo.insert {w0 : World} {s1 s2 : Nat} {wr w' : World} {D D' : Option Addr} {m c c' : Nat} {B : Option Addr} {nb cb k : Nat} {a b : List Bt} {hs hb : List Hd} {x : Bt} {d : Hd} (h : MgTo w0 s1 s2 wr D m c B nb cb k a b hs hb) (hx : b[k]? = some x) (hd : hb[k]? = some d) (ha : AscB a) (hk : knownB (mgB a (b.take k)) x.1 = false)
    (h01 : w0.heap.size ≤ s1) (h2 : s2 ≤ wr.heap.size) {i : Nat} (hi : posB (mgB a (b.take k)) x.1 = i)
    (hown : w'.ownsRow w0.heap.size 34 3 (.slice D' (m + 1) c') (m + 1) ((cellsOf btRec.cells ((mgB a (b.take k)).zip hs)).take (i * 3) ++ btRec.cells (x, d) ++ (cellsOf btRec.cells ((mgB a (b.take k)).zip hs)).drop (i * 3))) (hg : wr.grownBy w' (Value.slice D m c).ownBlock)
    (hat : (Value.slice D' (m + 1) c').ownBlock = (Value.slice D m c).ownBlock ∨ ∃ g, (Value.slice D' (m + 1) c').ownBlock = some g ∧ wr.heap.size ≤ g) :
    MgTo w0 s1 s2 w' D' (m + 1) c' B nb cb (k + 1) a b (hs.take i ++ d :: hs.drop i) hb := by
  have hdin : ∀ g, hdBlk d = some g → s1 ≤ g ∧ g < s2 := fun g e => by
    have h3 := (h.cpy.piles k x d hx hd).lt g (by rw [ownBlock_any d.1 _ 0 d.2 d.2]; exact e)
    exact ⟨h3.1, h.cpy.bnd g (List.mem_cons_of_mem _ (by rw [← e]; exact List.mem_map.2 ⟨d, List.mem_of_getElem? hd, rfl⟩))⟩
  refine ⟨?_, ?_, fun g e => ?_, fun g hgm => ?_⟩
  · rw [take_succ_of hx, mgB_snoc, insB_new (mgB_asc ha) hk, hi]
    refine h.own.insert (own_lo (h.cpy.piles k x d hx hd) h01) (fun q hq => ?_) hown hg hat (Nat.le_refl _)
    cases q with
    | none => exact .inl rfl
    | some g =>
      refine .inr (fun e => ?_)
      have hin := hdin g e.symm
      rcases List.mem_cons.1 hq with e1 | e1
      · have := h.lst g e1.symm; omega
      · rcases h.far g e1 with h3 | ⟨j, e2, hj, hj2, hj3⟩
        · omega
        · have hap := (apart_cons.1 h.cpy.apart).2
          rcases apart_at hap (i := j) (j := k) (a := hdBlk e2) (b := hdBlk d) (by simp [hj2]) (by simp [hd]) (by omega) with h4 | h4
          · rw [h4] at hj3; cases hj3
          · exact h4 (hj3.trans e)
  · cases e : (Value.slice D m c).ownBlock with
    | none => rw [e] at hg; exact h.cpy.keep hg
    | some g =>
      rw [e] at hg
      have hl := h.lst g e
      exact h.cpy.spanOut (Span.of_row (lo := g) (hi := g + 1) hg (fun g' e' => by injection e' with e'; omega)) (by omega)
  · rcases hat with e1 | ⟨g', e1, h3⟩
    · exact h.lst g (by rw [← e1]; exact e)
    · rw [e1] at e
      injection e with e
      omega
  · rw [List.map_append, List.map_cons] at hgm
    have hold : some g ∈ hs.map hdBlk → g < s1 ∨ ∃ (j : Nat) (e : Hd), j < k + 1 ∧ hb[j]? = some e ∧ hdBlk e = some g := fun hm => by
      rcases h.far g hm with h3 | ⟨j, e2, hj, hj2, hj3⟩
      · exact .inl h3
      · exact .inr ⟨j, e2, by omega, hj2, hj3⟩
    rcases List.mem_append.1 hgm with hm | hm
    · exact hold (List.map_subset _ (List.take_subset _ _) hm)
    · rcases List.mem_cons.1 hm with hm | hm
      · exact .inr ⟨k, d, by omega, hd, hm.symm⟩
      · exact hold (List.map_subset _ (List.drop_subset _ _) hm)
/-- Where a known number is told otherwise, the two do not agree. -/
theorem bmOK_clash {a b : List Bt} {k : Nat} {x y : Bt} (hx : b[k]? = some x) (hy : y ∈ mgB a (b.take k)) (he : y.1 = x.1) (hne : y ≠ x) : bmOK a b = false := by
  cases e : bmOK a b with
  | false => rfl
  | true =>
    obtain ⟨h1, h2, h3, h4⟩ := (bmOK_iff a b).1 e
    have hxb := List.mem_of_getElem? hx
    rcases mgB_sub hy with hm | hm
    · exact absurd (h3 y hm x hxb he) hne
    · exact absurd (ascB_inj ((batchesOK_iff b).1 h2).2.1 (List.take_subset _ _ hm) hxb he) hne
theorem knownB_at {l : List Bt} {id : Int} (h : knownB l id = true) : ∃ y, l[posB l id]? = some y ∧ y.1 = id := by
  unfold knownB at h
  cases e : l[posB l id]? with
  | none => rw [e] at h; cases h
  | some y => rw [e] at h; exact ⟨y, rfl, by simpa using h⟩
/-- All that went in is agreed. -/
theorem agree_of {a b : List Bt} (hb : AscB b) (h : ∀ (k : Nat) (x y : Bt), b[k]? = some x → y ∈ mgB a (b.take k) → y.1 = x.1 → y = x) : Agree a b := by
  intro y hy x hx e
  obtain ⟨k, hk⟩ := List.mem_iff_getElem?.1 hx
  exact h k x y hk (mgB_old hy) e

attribute [local go_sem] flowAct flowOp_def flowUpon
set_option maxHeartbeats 4000000 in
set_option maxRecDepth 100000 in
theorem c_impl_BatchesMerge (lo lo' : Nat) (A B : Option Addr) (n cap m cap' : Nat) (a b : List Bt) (w : World) (h : Bats w lo A n cap a) (h' : Bats w lo' B m cap' b) (hsa : ∀ x ∈ a, ∀ p ∈ x.2.2, p.1.size ≤ 2000000) (hsb : ∀ x ∈ b, ∀ p ∈ x.2.2, p.1.size ≤ 2000000) :
    Calls Try.prog 9 #[.slice A n cap, .slice B m cap'] w (BmRes a b w) := by
  have Hsa := Lib.hid hsa
  have Hsb := Lib.hid hsb
  clear hsa hsb
  have hbad : Hid (bmOK a b = false → ∀ w', w.grownBy w' none → BmRes a b w (.returned (.tuple #[.slice none 0 0, .bool false])) w') := Lib.hid (fun hv w' hg => by
    refine ⟨none, 0, 0, [], by rw [hv], hg, ?_⟩
    rw [bmRes, hv]
    exact OwnRecs.nil _ _ _ _ _ _)
  obtain ⟨V, hV⟩ : ∃ V, batchesOK a = V := ⟨_, rfl⟩
  have HV := Lib.hid hV
  clear hV
  obtain ⟨V2, hV2⟩ : ∃ V2, batchesOK b = V2 := ⟨_, rfl⟩
  have HV2 := Lib.hid hV2
  clear hV2
  go_enter Try.func9, Try.ntmps9
  go_wp2_with fail
  refine (c_impl_BatchesValid lo A n cap a _ h Hsa.out).mono ?_
  rintro e w1 ⟨rfl, hg1⟩
  rw [HV.out]
  cases V with
  | false =>
    go_wp2
    go_ret2
    exact hbad.out (by unfold bmOK; rw [HV.out]; rfl) _ hg1
  | true =>
    go_wp2_with fail
    refine (c_impl_BatchesValid lo' B m cap' b _ (Recs.keep0 h' hg1) Hsb.out).mono ?_
    rintro e w2 ⟨rfl, hg2⟩
    rw [HV2.out]
    have hG2 := gb_trans hg1 hg2
    cases V2 with
    | false =>
      go_wp2
      go_ret2
      exact hbad.out (by unfold bmOK; rw [HV.out, HV2.out]; rfl) _ hG2
    | true =>
      obtain ⟨hbt, ha, hal⟩ := (batchesOK_iff a).1 HV.out
      obtain ⟨hbt', hb, hbl⟩ := (batchesOK_iff b).1 HV2.out
      have han := h.len
      have hbm := h'.len
      have hpl : ∀ {l : List Bt}, (∀ p ∈ l, btOK p = true) → ∀ x ∈ l, x.2.2.length ≤ 2000000 := fun hl x hx => by
        have := hl x hx
        unfold btOK at this
        simp only [Bool.and_eq_true] at this
        have := ((pilesOK_iff _).1 this.2).2.2
        omega
      have hn8 : n ≤ 8 := by omega
      have hm8 : m ≤ 8 := by omega
      have Ha := Lib.hid ha
      have Hb := Lib.hid hb
      have Hal := Lib.hid hal
      have Han := Lib.hid han
      have Hbm := Lib.hid hbm
      have hpa := hpl hbt
      have hpb := hpl hbt'
      clear ha hb hal hbl han hbm hbt hbt' hpl
      go_wp2_with fail
      refine (c_batchesCopy lo A n cap a _ (Recs.keep0 h hG2) (by omega) hpa).mono ?_
      rintro e w3 ⟨D0, c0, hs0, rfl, hg3, hO0⟩
      have hG3 := gb_trans hG2 hg3
      go_wp2_with fail
      refine (c_batchesCopy lo' B m cap' b _ (Recs.keep0 h' hG3) (by omega) hpb).mono ?_
      rintro e w4 ⟨E, c1, hb0, rfl, hg4, hO1⟩
      have hG4 := gb_trans hG3 hg4
      have hz2 := hG2.size
      have hz3 := hg3.size
      have hz4 := hg4.size
      have hz03 := hG3.size
      clear hpa hpb h h' hg1 hg2
      have hstart : Hid (MgTo w w3.heap.size w4.heap.size w4 D0 n c0 E m c1 0 a b hs0 hb0) := Lib.hid ⟨by rw [List.take_zero]; exact (hO0.keep hg4).wide hz2 hz4, hO1, fun g e => .inl (hO0.bnd g (by rw [← e]; simp)), fun g e => .inl (hO0.bnd g (List.mem_cons_of_mem _ e))⟩
      clear hO0 hO1
      obtain ⟨s1, hs1⟩ : ∃ s1, w3.heap.size = s1 := ⟨_, rfl⟩
      obtain ⟨s2, hs2⟩ : ∃ s2, w4.heap.size = s2 := ⟨_, rfl⟩
      have Hs1 := Lib.hid hs1
      have Hs2 := Lib.hid hs2
      rw [hs1, hs2] at hstart
      rw [hs1] at hz03
      clear hs1 hs2 hz2 hz3 hz4
      go_wp2
      go_loopw [6, 24] (fun v i wr => ∃ (k q : Nat) (D : Option Addr) (c : Nat) (hs : List Hd), k ≤ m ∧ i = .int .i64 k ∧ v = .slice D q c ∧ w.grownBy wr none ∧ s2 ≤ wr.heap.size ∧ Hid (MgTo w s1 s2 wr D q c E m c1 k a b hs hb0) ∧ Hid (∀ (j : Nat) (x y : Bt), j < k → b[j]? = some x → y ∈ mgB a (b.take j) → y.1 = x.1 → y = x)) (fun _ i _ => m - (intOf i).toNat)
      case atStart => exact ⟨0, n, D0, c0, hs0, Nat.zero_le _, rfl, rfl, hG4, by rw [Hs2.out]; exact Nat.le_refl _, hstart, Lib.hid (fun j x y hj => absurd hj (by omega))⟩
      case round =>
        clear hstart
        obtain ⟨k, q, D, c, hs, hk, rfl, rfl, hG, hsz, hM, hagr⟩ := hrel
        rename World => wr
        obtain ⟨OUT, hOUT⟩ : ∃ OUT, mgB a (b.take k) = OUT := ⟨_, rfl⟩
        have HOUT := Lib.hid hOUT
        have hown := hM.out.own
        rw [hOUT] at hown
        have hql : OUT.length = q := hown.xlen
        have hq : q ≤ 16 := by
          have h1 := mgB_len a (b.take k)
          rw [hOUT, hql, List.length_take] at h1
          have := Hal.out
          omega
        have hasc : AscB OUT := by rw [← hOUT]; exact mgB_asc Ha.out
        clear hOUT
        by_cases hlt : k < m
        · have hk' : (k : Int) < (m : Int) := by omega
          have hk0 : (0 : Int) ≤ (k : Int) := by omega
          obtain ⟨⟨id, over, ps⟩, hx⟩ : ∃ x, b[k]? = some x := ⟨_, List.getElem?_eq_getElem (by rw [Hbm.out]; exact hlt)⟩
          obtain ⟨⟨A', c'⟩, hd⟩ : ∃ d, hb0[k]? = some d := ⟨_, List.getElem?_eq_getElem (by rw [hM.out.cpy.len, Hbm.out]; exact hlt)⟩
          obtain ⟨gb, hE, hgb1, hgb2⟩ := own_addr2 hM.out.cpy.row (by omega)
          have m0 : wr.cell? ⟨gb, k * 3, none⟩ = some (.int .i64 id) := hM.out.cpy.cell hE hx hd (j := 0) (by decide)
          have m1 : wr.cell? ⟨gb, k * 3 + 1, none⟩ = some (.int .i64 over) := hM.out.cpy.cell hE hx hd (j := 1) (by decide)
          have m2 : wr.cell? ⟨gb, k * 3 + 2, none⟩ = some (.slice A' ps.length c') := hM.out.cpy.cell hE hx hd (j := 2) (by decide)
          have hps : Piles wr s1 A' ps.length c' ps := Sl.own (hM.out.cpy.piles k _ _ hx hd)
          have Hx := Lib.hid hx
          have Hd' := Lib.hid hd
          subst hE
          obtain ⟨N, hN⟩ : ∃ N, ps.length = N := ⟨_, rfl⟩
          have HN := Lib.hid hN
          rw [hN] at m2 hps
          clear hN hx hd
          have hga := gb_alloc (gb_refl wr none) (.cells #[.int .i64 id, .int .i64 over, .slice A' N c'] 34)
          have hBk := Blk.new wr 34 #[.int .i64 id, .int .i64 over, .slice A' N c']
          go_wp2_with fail
          refine (c_Search w.heap.size D q c OUT id _ ((hown.recs).keep0 hga) hasc (by omega)).mono ?_
          rintro e w5 ⟨rfl, hg5⟩
          have hB5 := hBk.grown hg5 (by simp)
          have hg05 := gb_trans hga hg5
          have hM5 := Lib.hid (hM.out.keep hg05)
          have hG5 := gb_trans hG hg05
          have hsz5 := Nat.le_trans hsz hg05.size
          have hps5 := hps.keep0 hg05
          have hown5 := hown.keep hg05
          have hrw : wr.heap.size < w5.heap.size := hB5.lt
          clear hM hBk hga hps m0 m1 m2 hg05 hown hg5
          obtain ⟨p, hp⟩ : ∃ p, posB OUT id = p := ⟨_, rfl⟩
          have hpq : p ≤ q := by rw [← hp, ← hql]; exact posB_le OUT id
          have Hp := Lib.hid hp
          rw [hp]
          clear hp
          obtain ⟨K, hK⟩ : ∃ K, knownB OUT id = K := ⟨_, rfl⟩
          have HK := Lib.hid hK
          rw [hK]
          clear hK
          have hp0 : (0 : Int) ≤ (p : Int) := by omega
          have c50 := hB5.cell 0
          have c51 := hB5.cell 1
          have c52 := hB5.cell 2
          cases K with
          | false =>
            have hga6 := gb_alloc (gb_refl w5 none) (.cells #[.int .i64 id, .int .i64 over, .slice A' N c'] 34)
            have hB6 := Blk.new w5 34 #[.int .i64 id, .int .i64 over, .slice A' N c']
            have hM6 := Lib.hid (hM5.out.keep hga6)
            have hown6 := hown5.keep hga6
            have hdb : (Value.slice D q c).ownBlock ≠ some w5.heap.size := fun e => by
              have := (hown5.row.lt _ e).2
              omega
            have hlow : w.heap.size ≤ w5.heap.size := hG5.size
            have hG6 := gb_trans hG5 hga6
            go_wp2_with fail
            refine (c_Insert w.heap.size D q c p w5.heap.size (cellsOf btRec.cells (OUT.zip hs)) [.int .i64 id, .int .i64 over, .slice A' N c'] _ hown6.row hB6 rfl (by simp [Value.oneCell']) bt_one hdb hpq (by omega) hG6.size).mono ?_
            rintro e w7 ⟨D7, c7, rfl, ho7, hg7, hat7⟩
            have hM7 := hM6.out.insert Hx.out Hd'.out Ha.out (by rw [HOUT.out]; exact HK.out) hz03 (Nat.le_trans hsz5 hga6.size) (i := p) (by rw [HOUT.out]; exact Hp.out) (by rw [HOUT.out, show btRec.cells ((id, over, ps), (A', c')) = [.int .i64 id, .int .i64 over, .slice A' N c'] from by rw [← HN.out]; rfl]; exact ho7) hg7 hat7
            have hG7 : w.grownBy w7 none := gb_step hG6 hg7 (fun g e => .inr (hown5.row.lt g e).1)
            have hsz7 := Nat.le_trans (Nat.le_trans hsz5 hga6.size) hg7.size
            have HM7 := Lib.hid hM7
            clear hM7 hown6 hB6 hM6 hown5
            go_wp2
            go_roundw
            case rel => exact ⟨k + 1, q + 1, D7, c7, _, by omega, by go_num, rfl, hG7, hsz7, HM7, Lib.hid (fun j x y hj hx hy he => by
              rcases Nat.lt_or_ge j k with h1 | h1
              · exact hagr.out j x y h1 hx hy he
              · obtain rfl : j = k := by omega
                rw [HOUT.out] at hy
                rw [Hx.out] at hx
                injection hx with hx
                subst hx
                exfalso
                have hf := HK.out
                obtain ⟨i, hi⟩ := List.mem_iff_getElem?.1 hy
                have hpi : posB OUT id = i := posB_of hasc (Nat.le_of_lt (List.getElem?_eq_some_iff.1 hi).1) (fun j2 z hj2 hz => by
                  have := (List.pairwise_iff_getElem.1 hasc) j2 i (List.getElem?_eq_some_iff.1 hz).1 (List.getElem?_eq_some_iff.1 hi).1 hj2
                  rw [(List.getElem?_eq_some_iff.1 hz).2, (List.getElem?_eq_some_iff.1 hi).2] at this
                  simp only at he
                  omega) (fun j2 z hj2 hz => by
                  rcases Nat.lt_or_ge i j2 with h5 | h5
                  · have := (List.pairwise_iff_getElem.1 hasc) i j2 (List.getElem?_eq_some_iff.1 hi).1 (List.getElem?_eq_some_iff.1 hz).1 h5
                    rw [(List.getElem?_eq_some_iff.1 hz).2, (List.getElem?_eq_some_iff.1 hi).2] at this
                    simp only at he
                    omega
                  · obtain rfl : j2 = i := by omega
                    rw [hi] at hz
                    injection hz with hz
                    subst hz
                    simp only at he
                    omega)
                unfold knownB at hf
                rw [hpi, hi] at hf
                simp at hf
                exact hf he)⟩
            case measure => simp [intOf]; omega
          | true =>
            obtain ⟨⟨iy, oy, psy⟩, hy, hyi⟩ := knownB_at HK.out
            rw [Hp.out] at hy
            simp only at hyi
            subst hyi
            have hpq' : p < q := by rw [← hql]; exact (List.getElem?_eq_some_iff.1 hy).1
            have hpq3 : (p : Int) < (q : Int) := by omega
            obtain ⟨⟨Ay, cy⟩, hdy⟩ : ∃ d, hs[p]? = some d := ⟨_, List.getElem?_eq_getElem (by rw [hown5.len, hql]; exact hpq')⟩
            obtain ⟨gd, hE, hgd1, hgd2⟩ := own_addr2 hown5.row (by omega)
            have n1 : w5.cell? ⟨gd, p * 3 + 1, none⟩ = some (.int .i64 oy) := hown5.cell hE hy hdy (j := 1) (by decide)
            have n2 : w5.cell? ⟨gd, p * 3 + 2, none⟩ = some (.slice Ay psy.length cy) := hown5.cell hE hy hdy (j := 2) (by decide)
            have hpy : Piles w5 w.heap.size Ay psy.length cy psy := Sl.own (hown5.piles p _ _ hy hdy)
            have hlc5 := (Sl.own hown5.row).le
            have hcm5 := (Sl.own hown5.row).max
            obtain ⟨M, hMM⟩ : ∃ M, psy.length = M := ⟨_, rfl⟩
            have Hy := Lib.hid hy
            rw [hMM] at n2 hpy
            clear hMM hdy hy
            have hcall := fun (x : World) (hx : w5.grownBy x none) => c_EqualPiles w.heap.size s1 Ay A' M cy N c' psy ps x (hpy.keep0 hx) (hps5.keep0 hx)
            have Hc := Lib.hid hcall
            clear hcall hpy hps5
            have Hown5 := Lib.hid hown5
            clear hown5
            have hMs : ∀ (x : World), w5.grownBy x none → Hid (MgTo w s1 s2 x D q c (some ⟨gb, 0, none⟩) m c1 (k + 1) a b hs hb0) := fun x hx => Lib.hid ((hM5.out.keep hx).skip Hx.out Ha.out (by rw [HOUT.out]; exact HK.out))
            have Hms := Lib.hid hMs
            have hend : Hid ((iy, oy, psy) ≠ ((iy, over, ps) : Bt) → bmOK a b = false) := Lib.hid (fun hne => bmOK_clash (y := (iy, oy, psy)) Hx.out (by rw [HOUT.out]; exact List.mem_of_getElem? Hy.out) rfl hne)
            have hgo : Hid (oy = over → psy = ps → ∀ (j : Nat) (x y : Bt), j < k + 1 → b[j]? = some x → y ∈ mgB a (b.take j) → y.1 = x.1 → y = x) := Lib.hid (fun e1 e2 j x y hj hx hy he => by
              rcases Nat.lt_or_ge j k with h1 | h1
              · exact hagr.out j x y h1 hx hy he
              · obtain rfl : j = k := by omega
                rw [HOUT.out] at hy
                rw [Hx.out] at hx
                injection hx with hx
                subst hx e1 e2
                exact ascB_inj hasc hy (List.mem_of_getElem? Hy.out) he)
            subst hE
            clear hMs hM5
            by_cases ho : oy = over
            · subst ho
              have e2 : (oy != oy) = false := by simp
              obtain ⟨E1, hE1⟩ : ∃ E1, decide (psy = ps) = E1 := ⟨_, rfl⟩
              have HE1 := Lib.hid hE1
              rw [hE1] at Hc
              clear hE1
              go_wp2_with fail
              refine wp_known w5 [.slice (some ⟨gd, 0, none⟩) q c, .int .i64 p, .pointer (some ⟨gd, p * 3, none⟩), .pointer (some ⟨gd, p * 3 + 1, none⟩), .int .i64 oy, .pointer (some ⟨wr.heap.size, 1, none⟩), .int .i64 oy, .bool false, .bool false,
                .slice (some ⟨gd, 0, none⟩) q c, .int .i64 p, .pointer (some ⟨gd, p * 3, none⟩), .pointer (some ⟨gd, p * 3 + 2, none⟩), .slice Ay M cy, .pointer (some ⟨wr.heap.size, 2, none⟩), .slice A' N c', .bool E1, .bool !E1, .bool !E1, .bool !E1] (gb_refl _ _) (by kernel_rfl) (by kernel_rfl) ?_ ?_
              · refine ⟨?_, ?_, ?_, ?_, ?_, ?_, ?_, ?_, ?_, ?_, ?_, ?_, ?_, ?_, ?_, ?_, ?_, ?_, ?_, ?_, trivial⟩
                all_goals
                  intro nn u x hnn hC hp
                  simp [flowPreds, Region.binds, fKnown] at hp
                  have k1 := gb_cell hC n1 (by simp)
                  have k2 := gb_cell hC n2 (by simp)
                  have d1 := gb_cell hC c51 (by simp)
                  have d2 := gb_cell hC c52 (by simp)
                  go_simp
                all_goals try exact ⟨gb_refl _ _, rfl⟩
                · refine (Hc.out _ hC).mono ?_
                  rintro e y ⟨rfl, hg⟩
                  exact ⟨_, rfl, hg, rfl⟩
              · intro u x hC hp'
                have e1 : u 19 = .bool !E1 := hp' 19 (by decide)
                clear Hc
                cases E1 with
                | true =>
                  have Hst := Lib.hid (of_decide_eq_true HE1.out)
                  have hMx := Hms.out x hC
                  have hGx := gb_trans hG5 hC
                  have hsx := Nat.le_trans hsz5 hC.size
                  have Hgo := Lib.hid (hgo.out (by first | rfl | trivial) Hst.out)
                  clear HE1
                  go_simp
                  go_wp2
                  go_roundw
                  case rel => exact ⟨k + 1, q, _, c, hs, by omega, by go_num, rfl, hGx, hsx, hMx, Hgo⟩
                  case measure => simp [intOf]; omega
                | false =>
                  have Hst := Lib.hid (of_decide_eq_false HE1.out)
                  clear HE1
                  have hres := Lib.hid (hbad.out (hend.out (fun e => Hst.out (by injection e with e1 e2; injection e2))) x (gb_trans hG5 hC))
                  go_simp
                  go_wp2
                  go_ret2
                  exact hres.out
            · have e2 : (oy != over) = true := bne_iff_ne.2 ho
              have Hi := Lib.hid ho
              clear ho Hc
              go_wp2_with fail
              refine wp_known w5 [.slice (some ⟨gd, 0, none⟩) q c, .int .i64 p, .pointer (some ⟨gd, p * 3, none⟩), .pointer (some ⟨gd, p * 3 + 1, none⟩), .int .i64 oy, .pointer (some ⟨wr.heap.size, 1, none⟩), .int .i64 over, .bool true, .bool true,
                undef, undef, undef, undef, undef, undef, undef, undef, undef, .bool true, .bool true] (gb_refl _ _) (by kernel_rfl) (by kernel_rfl) ?_ ?_
              · refine ⟨?_, ?_, ?_, ?_, ?_, ?_, ?_, ?_, ?_, ?_, ?_, ?_, ?_, ?_, ?_, ?_, ?_, ?_, ?_, ?_, trivial⟩
                all_goals
                  intro nn u x hnn hC hp
                  simp [flowPreds, Region.binds, fKnown] at hp
                  have k1 := gb_cell hC n1 (by simp)
                  have d1 := gb_cell hC c51 (by simp)
                  go_simp
                all_goals try exact ⟨gb_refl _ _, rfl⟩
              · intro u x hC hp'
                have e1 : u 19 = .bool true := hp' 19 (by decide)
                have hres := Lib.hid (hbad.out (hend.out (fun e => Hi.out (by injection e with e1 e2; injection e2))) x (gb_trans hG5 hC))
                go_simp
                go_wp2
                go_ret2
                exact hres.out
        · obtain rfl : k = m := by omega
          have hOe : OUT = mgB a b := by
            rw [← HOUT.out, List.take_of_length_le (by rw [Hbm.out]; exact Nat.le_refl _)]
          have hag : Agree a b := agree_of Hb.out (fun j x y hx hy he => hagr.out j x y (by
            have := (List.getElem?_eq_some_iff.1 hx).1
            rw [Hbm.out] at this
            exact this) hx hy he)
          have hok : bmOK a b = batchesOK OUT := by
            unfold bmOK
            rw [HV.out, HV2.out, (agreeB_iff a b).2 hag, hOe]
            rfl
          obtain ⟨V3, hV3⟩ : ∃ V3, batchesOK OUT = V3 := ⟨_, rfl⟩
          have HV3 := Lib.hid hV3
          have Hok := Lib.hid (hok.trans hV3)
          have HOe := Lib.hid hOe
          have Hows := Lib.hid (fun (x : World) (hx : wr.grownBy x none) => (hown.keep hx).wide (Nat.le_refl w.heap.size) hx.size)
          have hrec := hown.recs
          have hsz3 : ∀ x ∈ OUT, ∀ p ∈ x.2.2, p.1.size ≤ 2000000 := fun x hx p hp => by
            rw [hOe] at hx
            rcases mgB_sub hx with h1 | h1
            · exact Hsa.out x h1 p hp
            · exact Hsb.out x h1 p hp
          clear hV3 hok hOe hag hown hM hagr
          go_wp2_with fail
          refine (c_impl_BatchesValid w.heap.size D q c OUT _ hrec hsz3).mono ?_
          rintro e w8 ⟨rfl, hg8⟩
          rw [HV3.out]
          have hG8 := gb_trans hG hg8
          have hO8 := Lib.hid (Hows.out w8 hg8)
          clear Hows hrec
          cases V3 with
          | false =>
            have hres := Lib.hid (hbad.out Hok.out w8 hG8)
            go_wp2
            go_ret2
            exact hres.out
          | true =>
            have hres : Hid (BmRes a b w (.returned (.tuple #[.slice D q c, .bool true])) w8) := Lib.hid ⟨D, q, c, hs, by rw [Hok.out], hG8, by rw [bmRes, Hok.out, if_pos rfl, ← HOe.out]; exact hO8.out⟩
            go_wp2
            go_ret2
            exact hres.out
end Go.Proofs.Ytdhkhlemdlibfaa
