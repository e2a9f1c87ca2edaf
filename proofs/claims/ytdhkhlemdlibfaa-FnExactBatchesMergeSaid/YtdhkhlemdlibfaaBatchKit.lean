/-
  How the laws measure, copy and compare slices of batches.
-/
import Derived.Test.YtdhkhlemdlibfaaPileKit
import Derived.Test.YtdhkhlemdlibfaaOwn
namespace Go.Proofs.Ytdhkhlemdlibfaa
open Go.RowKit
set_option linter.unusedVariables false

/-- What is left of a measure of records: below 0, or all fits. -/
def RzOK {α : Type} (R : Rec α) (xs : List α) (left r : Int) : Prop := r < 0 ∨ (0 ≤ r ∧ r ≤ left ∧ (xs.length : Int) ≤ left ∧ ∀ x ∈ xs, ((R.piles x).length : Int) ≤ left ∧ ∀ p ∈ R.piles x, (p.1.size : Int) ≤ left)
def RzRes {α : Type} (R : Rec α) (xs : List α) (left : Int) (w : World) (e : Ending) (w' : World) : Prop := ∃ r, e = .returned (.int .i64 r) ∧ -1 ≤ r ∧ RzOK R xs left r ∧ w.grownBy w' none

set_option maxHeartbeats 400000 in
theorem c_szBatch (lo : Nat) (A : Option Addr) (c : Nat) (id over : Int) (ps : List Pl) (left : Int) (w : World) (h : Piles w lo A ps.length c ps) (hw : ∀ p ∈ ps, p.1.size ≤ maxLen) (h0 : 0 ≤ left) (h1 : left ≤ 1048576) :
    Calls Try.prog 35 #[.agg #[.int .i64 id, .int .i64 over, .slice A ps.length c], .int .i64 left] w (SzRes ps left w) := by
  have Hw := Lib.hid hw
  clear hw
  obtain ⟨N, hN⟩ : ∃ N, ps.length = N := ⟨_, rfl⟩
  rw [hN] at h ⊢
  clear hN
  go_enter Try.func35, Try.ntmps35
  go_wp2_with fail
  refine (c_szPileS lo A N c ps left _ (h.keep0 (gb_alloc (gb_refl _ _) _)) Hw.out h0 h1).mono ?_
  rintro e w1 ⟨r, rfl, hr, hz, hg⟩
  have Hz := Lib.hid hz
  clear hz
  by_cases hr0 : r < 0
  · go_wp2
    go_ret
    exact ⟨_, rfl, by omega, .inl (by omega), gb_trans (gb_alloc (gb_refl _ _) _) hg⟩
  · go_wp2
    go_ret
    exact ⟨_, rfl, hr, Hz.out, gb_trans (gb_alloc (gb_refl _ _) _) hg⟩

set_option maxHeartbeats 1000000 in
theorem c_szBatchS (lo : Nat) (A : Option Addr) (n cap : Nat) (bs : List Bt) (left : Int) (w : World) (h : Bats w lo A n cap bs) (hw : RecsWf0 btRec bs) (h0 : 0 ≤ left) (h1 : left ≤ 1048576) :
    Calls Try.prog 14 #[.slice A n cap, .int .i64 left] w (RzRes btRec bs left w) := by
  have hlc := h.le
  have hcm := h.max
  have hxl := Lib.hid h.len
  have Hw := Lib.hid hw
  clear hw
  by_cases hc : left < (n : Int)
  · go_enter Try.func14, Try.ntmps14
    go_wp2
    go_ret
    exact ⟨_, rfl, by omega, .inl (by omega), gb_refl _ _⟩
  · go_enter Try.func14, Try.ntmps14
    go_wp2
    go_loopw [1, 5] (fun l i wr => ∃ (k : Nat) (r : Int), k ≤ n ∧ i = .int .i64 k ∧ l = .int .i64 r ∧ 0 ≤ r ∧ r ≤ left ∧ w.grownBy wr none ∧ Hid (∀ x ∈ bs.take k, ((btRec.piles x).length : Int) ≤ left ∧ ∀ p ∈ btRec.piles x, (p.1.size : Int) ≤ left)) (fun _ i _ => n - (intOf i).toNat)
    case atStart => exact ⟨0, left - n, Nat.zero_le _, rfl, rfl, by omega, by omega, gb_refl _ _, Lib.hid (by simp)⟩
    case round =>
      obtain ⟨k, r, hk, rfl, rfl, hr0, hr1, hG, hpre⟩ := hrel
      by_cases hlt : k < n
      · obtain ⟨b, off, id, over, ps, A', c', rfl, hp, hps, m0, m1, m2⟩ := Bats.at_ (Recs.keep0 h hG) hlt
        have hz := Hw.out _ (List.mem_of_getElem? hp.out)
        have Hz := Lib.hid hz
        clear hz
        have hk' : (k : Int) < (n : Int) := by omega
        have hcall := c_szBatch lo A' c' id over ps r wr hps Hz.out hr0 (by omega)
        have Hc := Lib.hid hcall
        clear hcall hps
        obtain ⟨N, hN⟩ : ∃ N, ps.length = N := ⟨_, rfl⟩
        rw [hN] at m2 Hc
        clear hN
        go_wp2_with fail
        refine Hc.out.mono ?_
        rintro e w1 ⟨q, rfl, hq1, hq, hg⟩
        have Hq := Lib.hid hq
        clear hq Hc
        by_cases hq0 : q < 0
        · go_wp2
          go_ret
          exact ⟨_, rfl, by omega, .inl (by omega), gb_trans hG hg⟩
        · have hq3 : q ≤ r := by rcases Hq.out with h1 | h1 <;> omega
          go_wp2
          go_roundw
          case rel => exact ⟨k + 1, q, by omega, by go_num, rfl, by omega, by omega, gb_trans hG hg, Lib.hid (fun x hm => by
            rw [take_succ_of hp.out] at hm
            rcases List.mem_append.1 hm with hm | hm
            · exact hpre.out x hm
            · rw [List.mem_singleton.1 hm]
              rcases Hq.out with h1 | ⟨_, _, h2, h3⟩
              · omega
              · exact ⟨Int.le_trans h2 hr1, fun p hp => Int.le_trans (h3 p hp) hr1⟩)⟩
          case measure => simp [intOf]; omega
      · obtain rfl : k = n := by omega
        go_wp2
        go_ret
        exact ⟨_, rfl, by omega, .inr ⟨hr0, hr1, by rw [hxl.out]; omega, fun p hm => hpre.out p (by rw [List.take_of_length_le (by rw [hxl.out]; exact Nat.le_refl _)]; exact hm)⟩, hG⟩

set_option maxHeartbeats 400000 in
theorem c_toBatch (lo : Nat) (A : Option Addr) (c : Nat) (id over : Int) (ps : List Pl) (w : World) (h : Piles w lo A ps.length c ps) (hn : ps.length ≤ 2000000) :
    Calls Try.prog 36 #[.agg #[.int .i64 id, .int .i64 over, .slice A ps.length c]] w fun e w' => ∃ g, e = .returned (.agg #[.int .i64 id, .int .i64 over, .slice (some ⟨g, 0, none⟩) ps.length ps.length]) ∧ w.heap.size ≤ g ∧ w.grownBy w' none ∧
      w'.ownsRow w.heap.size 55 2 (.slice (some ⟨g, 0, none⟩) ps.length ps.length) ps.length (cellsOf plCells ps) := by
  obtain ⟨N, hN⟩ : ∃ N, ps.length = N := ⟨_, rfl⟩
  rw [hN] at h hn ⊢
  clear hN
  go_enter Try.func36, Try.ntmps36
  go_wp2_with fail
  obtain ⟨w2, hw2⟩ : ∃ w2, (w.alloc (.cells #[.int .i64 id, .int .i64 over, .slice A N c] 62)).alloc (.cells #[.int .i64 0, .int .i64 0, .slice none 0 0] 34) = w2 := ⟨_, rfl⟩
  have hg2 : w.grownBy w2 none := by rw [← hw2]; exact gb_alloc (gb_alloc (gb_refl _ _) _) _
  have hz2 : w2.heap.size = w.heap.size + 2 := by rw [← hw2]; simp
  have hB1 : Blk w2 (w.heap.size + 1) 34 #[.int .i64 0, .int .i64 0, .slice none 0 0] := by
    rw [← hw2]
    have := Blk.new (w.alloc (.cells #[.int .i64 id, .int .i64 over, .slice A N c] 62)) 34 #[.int .i64 0, .int .i64 0, .slice none 0 0]
    rwa [World.size_alloc] at this
  rw [hw2]
  have hB2 := Blk.new w2 34 #[.int .i64 id, .int .i64 over, .slice none 0 0]
  have hg3 := gb_alloc (gb_refl w2 none) (.cells #[.int .i64 id, .int .i64 over, .slice none 0 0] 34)
  clear hw2
  refine (c_toPileS lo A N c ps _ (h.keep0 (gb_trans hg2 hg3)) hn).mono ?_
  rintro e w4 ⟨rfl, hg4, ho⟩
  have hB1' := hB1.grown (gb_trans hg3 hg4) (by simp)
  have hB2' := hB2.grown hg4 (by simp)
  rw [hz2] at hB2'
  have hsz : (w2.alloc (.cells #[.int .i64 id, .int .i64 over, .slice none 0 0] 34)).heap.size = w.heap.size + 3 := by simp [hz2]
  rw [hsz] at ho ⊢
  have hG := gb_trans hg2 (gb_trans hg3 hg4)
  clear hB1 hB2 hg3 hg2 hg4
  have a0 := hB1'.cell 0
  have a1 := hB1'.cell 1
  have a2 := hB1'.cell 2
  have fa0 := hB1'.frozen 0
  have fa1 := hB1'.frozen 1
  have fa2 := hB1'.frozen 2
  have b0 := hB2'.cell 0
  have b1 := hB2'.cell 1
  have b2 := hB2'.cell 2
  have fb2 := hB2'.frozen 2
  go_wp2
  refine bodyPost_ret (v := .agg #[.int .i64 id, .int .i64 over, .slice (some ⟨w.heap.size + 3, 0, none⟩) N N]) (by simp [results, Try.results36, go_sem, a0, a1, a2]) rfl ⟨_, rfl, by omega, ?_, ?_⟩
  · repeat refine gb_setCell ?_ (.inr (by simp; try omega)) _
    exact hG
  · repeat refine own_far ?_ (by simp [Value.ownBlock])
    exact own_lo ho (by omega)

theorem batchInfo : (Try.prog.info? 34).map (fun i => (i.zero, i.size, i.bytes)) = some (some (.agg #[.int .i64 0, .int .i64 0, .slice none 0 0]), 3, 40) := by kernel_rfl
theorem batchE : Elem Try.prog 23 34 3 40 (.agg #[.int .i64 0, .int .i64 0, .slice none 0 0]) := ⟨Try.underlying23, info_parts batchInfo, rfl, by omega⟩
abbrev btEz : Value := .agg #[.int .i64 0, .int .i64 0, .slice none 0 0]


set_option maxHeartbeats 1000000 in
theorem c_toBatchS (lo : Nat) (A : Option Addr) (n cap : Nat) (bs : List Bt) (w : World) (h : Bats w lo A n cap bs) (hn : n ≤ 1500000) (hp : ∀ b ∈ bs, b.2.2.length ≤ 2000000) :
    Calls Try.prog 15 #[.slice A n cap] w fun e w' => e = .returned (.slice (some ⟨w.heap.size, 0, none⟩) n n) ∧ w.grownBy w' none ∧
      ∃ hs, OwnRecs btRec 55 34 w' w.heap.size w'.heap.size (some ⟨w.heap.size, 0, none⟩) n n bs hs := by
  have hlc := h.le
  have hcm := h.max
  have hxl := Lib.hid h.len
  have Hp := Lib.hid hp
  clear hp
  have hmk := run_mk batchE n (by omega) (by omega)
  have hb0 : Blk (w.alloc (.cells (madeCells (btEz : Value).cells (n * 3)) 34)) w.heap.size 34 (madeCells (btEz : Value).cells (n * 3)) := Blk.new _ _ _
  obtain ⟨cs0, hcs⟩ : ∃ cs, madeCells (btEz : Value).cells (n * 3) = cs := ⟨_, rfl⟩
  have hsz : cs0.size = n * 3 := by rw [← hcs, size_madeCells]
  have hmk' : ∀ wx : World, (Instr.makeSlice 23 (.int .i64 (n : Int)) (.int .i64 (n : Int))).run Try.prog wx = .ok (.slice (some ⟨wx.heap.size, 0, none⟩) n n) (wx.alloc (.cells cs0 34)) := fun wx => by rw [hmk wx]; simp only [← hcs]
  clear hmk
  rw [hcs] at hb0
  clear hcs
  have hM0 := MadeTo.start btRec 55 34 w _ n bs cs0 hb0 hsz
  clear hsz hb0
  go_enter Try.func15, Try.ntmps15
  go_wp2
  clear hmk'
  go_loopw [4] (fun i wr => ∃ (k : Nat) (cs : Array Value) (hs : List Hd), k ≤ n ∧ i = .int .i64 k ∧ MadeTo btRec 55 34 w wr w.heap.size k n bs cs hs ∧ w.grownBy wr none) (fun i _ => n - (intOf i).toNat)
  case atStart => exact ⟨0, cs0, [], Nat.zero_le _, rfl, hM0, gb_alloc (gb_refl _ _) _⟩
  case round =>
    obtain ⟨k, cs, hs, hk, rfl, hM, hG⟩ := hrel
    by_cases hlt : k < n
    · obtain ⟨b, off, id, over, ps, A', c', rfl, hp, hps, m0, m1, m2⟩ := Bats.at_ (Recs.keep0 h hG) hlt
      have hk' : (k : Int) < (n : Int) := by omega
      have hk0 : (0 : Int) ≤ (k : Int) := by omega
      have hcall := c_toBatch lo A' c' id over ps wr hps (Hp.out _ (List.mem_of_getElem? hp.out))
      have Hc := Lib.hid hcall
      clear hcall hps
      obtain ⟨N, hN⟩ : ∃ N, ps.length = N := ⟨_, rfl⟩
      have HN := Lib.hid hN
      rw [hN] at m2 Hc
      clear hN
      go_wp2_with fail
      refine Hc.out.mono ?_
      rintro e w1 ⟨g, rfl, hgl, hg, ho⟩
      clear Hc
      have hb1 := hM.blk.grown hg (by simp)
      have hs' := hM.size
      obtain ⟨u0, hu0⟩ := blk_cell hb1 (k := k * 3) (by rw [hs']; show k * 3 < n * 3; omega)
      obtain ⟨u1, hu1⟩ := blk_cell hb1 (k := k * 3 + 1) (by rw [hs']; show k * 3 + 1 < n * 3; omega)
      obtain ⟨u2, hu2⟩ := blk_cell hb1 (k := k * 3 + 2) (by rw [hs']; show k * 3 + 2 < n * 3; omega)
      have hf0 := hb1.frozen (k * 3)
      have hf1 := hb1.frozen (k * 3 + 1)
      have hf2 := hb1.frozen (k * 3 + 2)
      have Hsz := Lib.hid hs'
      clear hs'
      go_wp2
      go_roundw
      case rel => exact ⟨k + 1, _, _, by omega, by go_num, hM.stepBt hp.out hlt HN.out hg ho hgl, gb_setCell (gb_setCell (gb_setCell (gb_trans hG hg) (.inr (Nat.le_refl _)) _) (.inr (Nat.le_refl _)) _) (.inr (Nat.le_refl _)) _⟩
      case measure => simp [intOf]; omega
    · obtain rfl : k = n := by omega
      have hfin := hM.done hxl.out (Nat.le_refl _) (by omega)
      go_wp2
      go_ret
      exact ⟨rfl, hG, hs, hfin⟩

theorem batch_eq (i j o q : Int) (xs ys : List Pl) : decide (((i, o, xs) : Bt) = (j, q, ys)) = (decide (i = j) && (decide (o = q) && decide (xs = ys))) := by
  by_cases h1 : i = j <;> by_cases h2 : o = q <;> by_cases h3 : xs = ys <;> simp [*]

set_option maxHeartbeats 1000000 in
theorem c_eqBatch (lo lo' : Nat) (A B : Option Addr) (c c' : Nat) (i j o q : Int) (xs ys : List Pl) (w : World) (h : Piles w lo A xs.length c xs) (h' : Piles w lo' B ys.length c' ys) :
    Calls Try.prog 37 #[.agg #[.int .i64 i, .int .i64 o, .slice A xs.length c], .agg #[.int .i64 j, .int .i64 q, .slice B ys.length c']] w fun e w' => e = .returned (.bool (decide (((i, o, xs) : Bt) = (j, q, ys)))) ∧ w.grownBy w' none := by
  rw [batch_eq]
  obtain ⟨N, hN⟩ : ∃ N, xs.length = N := ⟨_, rfl⟩
  obtain ⟨M, hM⟩ : ∃ M, ys.length = M := ⟨_, rfl⟩
  rw [hN] at h ⊢
  rw [hM] at h' ⊢
  clear hN hM
  by_cases h1 : i = j
  · subst h1
    have e1 : (i != i) = false := by simp
    by_cases h2 : o = q
    · subst h2
      have e2 : (o != o) = false := by simp
      obtain ⟨D, hD⟩ : ∃ D, decide (xs = ys) = D := ⟨_, rfl⟩
      have HD := Lib.hid hD
      clear hD
      go_enter Try.func37, Try.ntmps37
      go_wp2_with fail
      refine (c_eqPileS lo lo' A B N c M c' xs ys _ (h.keep0 (gb_alloc (gb_alloc (gb_refl _ _) _) _)) (h'.keep0 (gb_alloc (gb_alloc (gb_refl _ _) _) _))).mono ?_
      rintro e w1 ⟨rfl, hg⟩
      rw [HD.out]
      cases D with
      | true =>
        go_wp2
        go_ret
        exact ⟨ret_bool (by simp; exact of_decide_eq_true HD.out), gb_trans (gb_alloc (gb_alloc (gb_refl _ _) _) _) hg⟩
      | false =>
        go_wp2
        go_ret
        exact ⟨ret_bool (by simp; exact of_decide_eq_false HD.out), gb_trans (gb_alloc (gb_alloc (gb_refl _ _) _) _) hg⟩
    · have e2 : (o != q) = true := bne_iff_ne.2 h2
      go_enter Try.func37, Try.ntmps37
      go_wp2
      go_ret
      exact ⟨ret_bool (by simp [h2]), gb_alloc (gb_alloc (gb_refl _ _) _) _⟩
  · have e1 : (i != j) = true := bne_iff_ne.2 h1
    go_enter Try.func37, Try.ntmps37
    go_wp2
    go_ret
    exact ⟨ret_bool (by simp [h1]), gb_alloc (gb_alloc (gb_refl _ _) _) _⟩

attribute [local go_sem] flowAct flowOp_def flowUpon
set_option maxHeartbeats 1000000 in
theorem c_eqBatchS (lo lo' : Nat) (A B : Option Addr) (n cap m cap' : Nat) (xs ys : List Bt) (w : World) (h : Bats w lo A n cap xs) (h' : Bats w lo' B m cap' ys) :
    Calls Try.prog 16 #[.slice A n cap, .slice B m cap'] w fun e w' => e = .returned (.bool (decide (xs = ys))) ∧ w.grownBy w' none := by
  have hlc := h.le
  have hcm := h.max
  have hxl := Lib.hid h.len
  have hlc' := h'.le
  have hcm' := h'.max
  have hyl := Lib.hid h'.len
  by_cases hnm : n = m
  · subst hnm
    go_enter Try.func16, Try.ntmps16
    go_wp2
    go_loopw [5] (fun i wr => ∃ k : Nat, k ≤ n ∧ i = .int .i64 k ∧ w.grownBy wr none ∧ Hid (xs.take k = ys.take k)) (fun i _ => n - (intOf i).toNat)
    case atStart => exact ⟨0, Nat.zero_le _, rfl, gb_refl _ _, Lib.hid rfl⟩
    case round =>
      obtain ⟨k, hk, rfl, hG, hpre⟩ := hrel
      by_cases hlt : k < n
      · obtain ⟨b, off, i1, o1, p1, A1, c1, rfl, hz, hp1, m0, m1, m2⟩ := Bats.at_ (Recs.keep0 h hG) hlt
        obtain ⟨b', off', i2, o2, p2, A2, c2, rfl, hz', hp2, m0', m1', m2'⟩ := Bats.at_ (Recs.keep0 h' hG) hlt
        have hk' : (k : Int) < (n : Int) := by omega
        have hk0 : (0 : Int) ≤ (k : Int) := by omega
        have hcall := fun (x : World) (hx : wr.grownBy x none) => c_eqBatch lo lo' A1 A2 c1 c2 i1 i2 o1 o2 p1 p2 x (hp1.keep0 hx) (hp2.keep0 hx)
        have Hc := Lib.hid hcall
        clear hcall hp1 hp2
        obtain ⟨N, hN⟩ : ∃ N, p1.length = N := ⟨_, rfl⟩
        obtain ⟨M, hM⟩ : ∃ M, p2.length = M := ⟨_, rfl⟩
        rw [hN] at m2 Hc
        rw [hM] at m2' Hc
        clear hN hM
        obtain ⟨D, hD⟩ : ∃ D, decide (((i1, o1, p1) : Bt) = (i2, o2, p2)) = D := ⟨_, rfl⟩
        have HD := Lib.hid hD
        rw [hD] at Hc
        clear hD
        go_wp2_with fail
        refine wp_known wr [.slice (some ⟨b, off, none⟩) n cap, .int .i64 k, .pointer (some ⟨b, off + k * 3, none⟩), .agg #[.int .i64 i1, .int .i64 o1, .slice A1 N c1], .slice (some ⟨b', off', none⟩) n cap', .int .i64 k, .pointer (some ⟨b', off' + k * 3, none⟩), .agg #[.int .i64 i2, .int .i64 o2, .slice A2 M c2], .bool D, .bool !D] (gb_refl _ _) (by kernel_rfl) (by kernel_rfl) ?_ ?_
        · refine ⟨?_, ?_, ?_, ?_, ?_, ?_, ?_, ?_, ?_, ?_, trivial⟩
          all_goals
            intro n u x hn hC hp
            simp [flowPreds, Region.binds, fKnown] at hp
            have n0 := gb_cell hC m0 (by simp)
            have n1 := gb_cell hC m1 (by simp)
            have n2 := gb_cell hC m2 (by simp)
            have n0' := gb_cell hC m0' (by simp)
            have n1' := gb_cell hC m1' (by simp)
            have n2' := gb_cell hC m2' (by simp)
            go_simp
          all_goals try exact ⟨gb_refl _ _, rfl⟩
          · refine (Hc.out _ hC).mono ?_
            rintro e y ⟨rfl, hg⟩
            exact ⟨_, rfl, hg, rfl⟩
        · intro u x hC hp'
          have e1 : u 9 = .bool !D := hp' 9 (by decide)
          clear Hc
          cases D with
          | true =>
            have hst := of_decide_eq_true HD.out
            have Hst := Lib.hid hst
            clear hst
            go_simp
            go_wp2
            go_roundw
            case rel => exact ⟨k + 1, by omega, by go_num, gb_trans hG hC, Lib.hid (by rw [take_succ_of hz.out, take_succ_of hz'.out, hpre.out, Hst.out])⟩
            case measure => simp [intOf]; omega
          | false =>
            have hst := of_decide_eq_false HD.out
            have Hst := Lib.hid hst
            clear hst
            go_simp
            go_wp2
            go_ret
            exact ⟨ret_bool (decide_eq_false (fun e => Hst.out (by subst e; have := hz.out.symm.trans hz'.out; injection this))).symm, gb_trans hG hC⟩
      · obtain rfl : k = n := by omega
        go_wp2
        go_ret
        exact ⟨ret_bool (decide_eq_true (by have := hpre.out; rwa [List.take_of_length_le (by rw [hxl.out]; exact Nat.le_refl _), List.take_of_length_le (by rw [hyl.out]; exact Nat.le_refl _)] at this)).symm, hG⟩
  · have hne : ((n : Int) != (m : Int)) = true := by rw [bne_iff_ne]; omega
    go_enter Try.func16, Try.ntmps16
    go_wp2
    go_ret
    exact ⟨ret_bool (decide_eq_false (fun e => hnm (by rw [← hxl.out, ← hyl.out, e]))).symm, gb_refl _ _⟩
end Go.Proofs.Ytdhkhlemdlibfaa
