/-
  First preferences: BallotFirst, pilesFit, firstCounts, FirstCounts of the program.
-/
import Derived.Test.YtipnalfkpalieaaDoorPiles
import Derived.Test.YtipnalfkpalieaaDoorKnownTail
import Derived.Test.YtipnalfkpalieaaDoorOwn
namespace Go.Proofs.YtipnalfkpalieaaDoor
open Go.RowKit
set_option linter.unusedVariables false

/-- A slice of bools. -/
def Bls (w : World) (lo : Nat) (A : Option Addr) (n cap : Nat) (bs : List Bool) : Prop := Sl w lo 1 A n cap (bs.map Value.bool)
theorem Bls.len {w : World} {lo n cap : Nat} {A : Option Addr} {bs : List Bool} (h : Bls w lo A n cap bs) : bs.length = n := by have := h.2.2.1; simpa using this
theorem Bls.at_ {w : World} {lo n cap k : Nat} {A : Option Addr} {bs : List Bool} (h : Bls w lo A n cap bs) (hk : k < n) : ∃ b off z, A = some ⟨b, off, none⟩ ∧ Hid (bs[k]? = some z) ∧ w.cell? ⟨b, off + k, none⟩ = some (.bool z) := by
  obtain ⟨b, off, u, e, hu, hc⟩ := Sl.at1 h hk
  have hu := hu.out
  rw [List.getElem?_map] at hu
  cases hx : bs[k]? with
  | none => rw [hx] at hu; cases hu
  | some z => rw [hx] at hu; injection hu with hu; subst hu; exact ⟨b, off, z, e, Lib.hid rfl, hc⟩
/-- The first of a ballot who has not left. -/
def bFirst (left : List Bool) : List Int → Int
  | [] => -1
  | c :: xs => if left.getD c.toNat true = false then c else bFirst left xs
theorem bFirst_range {left : List Bool} {xs : List Int} {n : Int} (h : ∀ z ∈ xs, 0 ≤ z ∧ z < n) : bFirst left xs = -1 ∨ (0 ≤ bFirst left xs ∧ bFirst left xs < n) := by
  induction xs with
  | nil => exact .inl rfl
  | cons c xs ih =>
    rw [bFirst]
    split
    · exact .inr (h c (by simp))
    · exact ih (fun z hz => h z (List.mem_cons_of_mem _ hz))

set_option maxHeartbeats 1000000 in
theorem c_BallotFirst (lo lo' : Nat) (A B : Option Addr) (n cap m cap' : Nat) (xs : List Int) (left : List Bool) (w : World) (h : Ints w lo A n cap xs) (h' : Bls w lo' B m cap' left) (hok : ballotOK xs m = true) :
    Calls Tryd.prog 58 #[.slice A n cap, .slice B m cap'] w fun e w' => e = .returned (.int .i64 (bFirst left xs)) ∧ w = w' := by
  have hlc := h.le
  have hcm := h.max
  have hxl := Lib.hid h.len
  have hlc' := Sl.le h'
  have hcm' := Sl.max h'
  have hyl := Lib.hid h'.len
  have hall := Lib.hid ((ballotOK_iff xs m).1 hok).2.2
  have Hok := Lib.hid hok
  clear hok
  go_enter Tryd.func58, Tryd.ntmps58
  go_wp2_with fail
  refine (c_impl_BallotValid lo A n cap xs m _ h).mono ?_
  rintro e w1 ⟨rfl, rfl⟩
  rw [Hok.out]
  go_wp2
  go_loop [14] (fun i => ∃ k : Nat, k ≤ n ∧ i = .int .i64 k ∧ Hid (bFirst left xs = bFirst left (xs.drop k))) (fun i => n - (intOf i).toNat)
  case atStart => exact ⟨0, Nat.zero_le _, rfl, Lib.hid rfl⟩
  case round =>
    obtain ⟨k, hk, rfl, hpre⟩ := hrel
    by_cases hlt : k < n
    · obtain ⟨b, off, z, rfl, hz, hcell⟩ := h.at_ hlt
      have hzr := hall.out z (List.mem_of_getElem? hz.out)
      obtain ⟨c, rfl⟩ : ∃ c : Nat, z = (c : Int) := ⟨z.toNat, by omega⟩
      have hcm : c < m := by omega
      obtain ⟨b', off', l, rfl, hl, hcell'⟩ := h'.at_ hcm
      have hk' : (k : Int) < (n : Int) := by omega
      have hk0 : (0 : Int) ≤ (k : Int) := by omega
      have hc0 : (0 : Int) ≤ (c : Int) := by omega
      have hcm' : (c : Int) < (m : Int) := by omega
      have hst : Hid (bFirst left (xs.drop k) = if l = false then (c : Int) else bFirst left (xs.drop (k + 1))) := Lib.hid (by
        rw [drop_cons' hz.out, bFirst, Int.toNat_natCast, List.getD_eq_getElem?_getD, hl.out]
        rfl)
      clear hz hl hzr
      cases l with
      | false =>
        go_wp2
        go_ret
        exact ⟨ret_int (by rw [hpre.out, hst.out]; simp), rfl⟩
      | true =>
        go_wp2
        go_round
        case rel => exact ⟨k + 1, by omega, by go_num, Lib.hid (by rw [hpre.out, hst.out]; simp)⟩
        case measure => simp [intOf]; omega
    · obtain rfl : k = n := by omega
      go_wp2
      go_ret
      exact ⟨ret_int (by rw [hpre.out, List.drop_of_length_le (by rw [hxl.out]; exact Nat.le_refl _)]; rfl), rfl⟩

set_option maxHeartbeats 400000 in
theorem c_ballot (s : ByteArray) (m : Int) (w : World) (hs : s.size ≤ 2000000) (hok : ballotOK (ballotOf s) 5 = true) :
    Calls Tryd.prog 59 #[.agg #[.string s, .int .i64 m]] w fun e w' => ∃ A c, e = .returned (.slice A s.size c) ∧ w.grownBy w' none ∧ Ints w' w.heap.size A s.size c (ballotOf s) := by
  have Hok := Lib.hid hok
  clear hok
  have hga := gb_alloc (gb_refl w none) (.cells #[.string s, .int .i64 m] 48)
  go_enter Tryd.func59, Tryd.ntmps59
  go_wp2_with fail
  refine (c_impl_BallotParse s _ hs).mono ?_
  rintro e w1 ⟨A, c, rfl, hg1, ho1⟩
  rw [Hok.out] at ho1
  rw [Hok.out]
  simp only [if_true] at ho1 ⊢
  have hI : Ints w1 w.heap.size A s.size c (ballotOf s) := (Sl.own ho1).mono hga.size
  clear ho1
  go_wp2
  go_ret
  exact ⟨A, c, rfl, gb_trans hga hg1, hI⟩

/-- Piles that fit so many candidates. -/
def fitOK (ps : List Pl) (n : Int) : Bool := inB n 1 5 && pilesOK ps && ps.all fun p => ballotOK (ballotOf p.1) n
theorem plOK_ballot {p : Pl} (h : plOK p = true) : ballotOK (ballotOf p.1) 5 = true := by
  unfold plOK at h
  rw [Bool.and_eq_true] at h
  exact h.1

set_option maxHeartbeats 1000000 in
theorem c_pilesFit (lo : Nat) (A : Option Addr) (n cap : Nat) (ps : List Pl) (m : Int) (w : World) (h : Piles w lo A n cap ps) (hs : ∀ p ∈ ps, p.1.size ≤ 2000000) :
    Calls Tryd.prog 36 #[.slice A n cap, .int .i64 m] w fun e w' => e = .returned (.bool (fitOK ps m)) ∧ w.grownBy w' none := by
  have hlc := h.1
  have hcm := Sl.max h
  have hxl := Lib.hid h.len
  have Hs := Lib.hid hs
  clear hs
  obtain ⟨V, hV⟩ : ∃ V, pilesOK ps = V := ⟨_, rfl⟩
  have HV := Lib.hid hV
  obtain ⟨Y, hY⟩ : ∃ Y, inB m 1 5 = Y := ⟨_, rfl⟩
  have HY := Lib.hid hY
  have hf : Hid (fitOK ps m = (Y && V && ps.all fun p => ballotOK (ballotOf p.1) m)) := Lib.hid (by rw [fitOK, hV, hY])
  clear hV hY
  go_enter Tryd.func36, Tryd.ntmps36
  go_wp2_with fail
  refine (c_isMany m _).mono ?_
  rintro e w1 ⟨rfl, rfl⟩
  rw [HY.out]
  cases Y with
  | false =>
    go_wp2
    go_ret
    exact ⟨ret_bool (by rw [hf.out]; rfl), gb_refl _ _⟩
  | true =>
    go_wp2_with fail
    refine (c_impl_PilesValid lo A n cap ps _ h Hs.out).mono ?_
    rintro e w2 ⟨rfl, hg2⟩
    rw [HV.out]
    cases V with
    | false =>
      go_wp2
      go_ret
      exact ⟨ret_bool (by rw [hf.out]; rfl), hg2⟩
    | true =>
      have hall := Lib.hid ((pilesOK_iff ps).1 HV.out).1
      go_wp2
      go_loopw [17] (fun i wr => ∃ k : Nat, k ≤ n ∧ i = .int .i64 k ∧ w.grownBy wr none ∧ Hid ((ps.take k).all (fun p => ballotOK (ballotOf p.1) m) = true)) (fun i _ => n - (intOf i).toNat)
      case atStart => exact ⟨0, Nat.zero_le _, rfl, hg2, Lib.hid rfl⟩
      case round =>
        obtain ⟨k, hk, rfl, hG, hpre⟩ := hrel
        rename World => wr
        by_cases hlt : k < n
        · obtain ⟨b, off, ⟨s, q⟩, rfl, _, _, hz, p0, p1⟩ := Piles.at_ (h.keep0 hG) hlt
          have hk' : (k : Int) < (n : Int) := by omega
          have hk0 : (0 : Int) ≤ (k : Int) := by omega
          have hmem := List.mem_of_getElem? hz.out
          have hpb := plOK_ballot (hall.out _ hmem)
          have hssz := Hs.out _ hmem
          have hga := gb_alloc (gb_refl wr none) (.cells #[.string s, .int .i64 q] 48)
          clear hmem
          go_wp2_with fail
          refine (c_ballot s q _ hssz hpb).mono ?_
          rintro e w3 ⟨B, c, rfl, hg3, hI3⟩
          have hG3 := gb_trans hG (gb_trans hga hg3)
          obtain ⟨N, hN⟩ : ∃ N, s.size = N := ⟨_, rfl⟩
          rw [hN] at hI3
          rw [hN]
          obtain ⟨D, hD⟩ : ∃ D, ballotOK (ballotOf s) m = D := ⟨_, rfl⟩
          have HD := Lib.hid hD
          clear hN hD hpb hssz hga hg3
          go_wp2_with fail
          refine (c_impl_BallotValid _ B N c (ballotOf s) m _ hI3).mono ?_
          rintro e w4 ⟨rfl, rfl⟩
          rw [HD.out]
          cases D with
          | false =>
            go_wp2
            go_ret
            exact ⟨ret_bool (by
              rw [hf.out]
              have : ps.all (fun p => ballotOK (ballotOf p.1) m) = false := by
                rw [List.all_eq_false]
                exact ⟨_, List.mem_of_getElem? hz.out, by simp [HD.out]⟩
              rw [this]; rfl), hG3⟩
          | true =>
            go_wp2
            go_roundw
            case rel => exact ⟨k + 1, by omega, by go_num, hG3, Lib.hid (by rw [take_succ_of hz.out, List.all_append, hpre.out]; simp [HD.out])⟩
            case measure => simp [intOf]; omega
        · obtain rfl : k = n := by omega
          go_wp2
          go_ret
          exact ⟨ret_bool (by
            have := hpre.out
            rw [List.take_of_length_le (by rw [hxl.out]; exact Nat.le_refl _)] at this
            rw [hf.out, this]; rfl), hG⟩

/-- More votes for one candidate. -/
def bump (cs : List Int) (c m : Int) : List Int := if 0 ≤ c then cs.set c.toNat (cs.getD c.toNat 0 + m) else cs
def fCounts (left : List Bool) (ps : List Pl) : List Int := ps.foldl (fun cs p => bump cs (bFirst left (ballotOf p.1)) p.2) (List.replicate left.length 0)
theorem bump_len (cs : List Int) (c m : Int) : (bump cs c m).length = cs.length := by unfold bump; split <;> simp
theorem fCounts_len (left : List Bool) (ps : List Pl) : (fCounts left ps).length = left.length := by
  unfold fCounts
  have : ∀ (cs : List Int), (ps.foldl (fun cs p => bump cs (bFirst left (ballotOf p.1)) p.2) cs).length = cs.length := by
    induction ps with
    | nil => intro cs; rfl
    | cons p ps ih => intro cs; rw [List.foldl_cons, ih, bump_len]
  rw [this, List.length_replicate]
theorem fCounts_snoc (left : List Bool) (ps : List Pl) (p : Pl) : fCounts left (ps ++ [p]) = bump (fCounts left ps) (bFirst left (ballotOf p.1)) p.2 := by
  simp [fCounts, List.foldl_append]
theorem bump_bound {cs : List Int} {c m M : Int} (h : ∀ z ∈ cs, 0 ≤ z ∧ z ≤ M) (hM : 0 ≤ M) (hm : 0 ≤ m ∧ m ≤ 99) : ∀ z ∈ bump cs c m, 0 ≤ z ∧ z ≤ M + 99 := by
  unfold bump
  split
  · intro z hz
    rcases List.mem_or_eq_of_mem_set hz with hz | rfl
    · have := h z hz; omega
    · rw [List.getD_eq_getElem?_getD]
      cases e : cs[c.toNat]? with
      | none => simp; omega
      | some y => have := h y (List.mem_of_getElem? e); simp; omega
  · intro z hz
    have := h z hz
    omega

attribute [local go_sem] flowAct flowOp_def flowUpon
set_option maxHeartbeats 2000000 in
theorem c_firstCounts (lo lo' : Nat) (A B : Option Addr) (n cap m cap' : Nat) (ps : List Pl) (left : List Bool) (w : World) (h : Piles w lo A n cap ps) (h' : Bls w lo' B m cap' left) (hs : ∀ p ∈ ps, p.1.size ≤ 2000000) (hfit : fitOK ps m = true) :
    Calls Tryd.prog 28 #[.slice A n cap, .slice B m cap'] w fun e w' => ∃ D, e = .returned (.slice D m m) ∧ w.grownBy w' none ∧ w'.ownsRow w.heap.size 3 1 (.slice D m m) m ((fCounts left ps).map (Value.int .i64)) := by
  have hlc := h.1
  have hcm := Sl.max h
  have hxl := Lib.hid h.len
  have hlc' := Sl.le h'
  have hcm' := Sl.max h'
  have hyl := Lib.hid h'.len
  have Hs := Lib.hid hs
  unfold fitOK at hfit
  rw [Bool.and_eq_true, Bool.and_eq_true] at hfit
  have hm5 : 1 ≤ m ∧ m ≤ 5 := by have h1 : 1 ≤ (m : Int) ∧ (m : Int) ≤ 5 := by simpa [inB] using hfit.1.1
                                 omega
  have hn12 : n ≤ 12 := by have := ((pilesOK_iff ps).1 hfit.1.2).2.2; have := hxl.out; omega
  have hall := Lib.hid ((pilesOK_iff ps).1 hfit.1.2).1
  have hfits := Lib.hid (List.all_eq_true.1 hfit.2)
  obtain ⟨hm1, hm5⟩ := hm5
  clear hs hfit
  have hmk := run_mk intE m (by omega) (by omega) w
  have hB0 : Blk (w.alloc (.cells (madeCells (Value.int .i64 0).cells (m * 1)) 3)) w.heap.size 3 (madeCells (Value.int .i64 0).cells (m * 1)) := Blk.new _ _ _
  have hown0 := own_of_blk (lo := w.heap.size) (size := 1) (n := m) hB0 (by rw [size_madeCells]) (by omega) (Nat.le_refl _)
  have hrep : (madeCells (Value.int .i64 0).cells (m * 1)).toList = (List.replicate m (0 : Int)).map (Value.int .i64) := by
    rw [List.map_replicate]
    apply List.ext_getElem?
    intro j
    rw [Array.getElem?_toList]
    by_cases hj : j < m
    · rw [List.getElem?_replicate, if_pos hj]
      simp [madeCells, hj, Value.cells, Nat.mod_one]
    · rw [Array.getElem?_eq_none (by rw [size_madeCells]; omega), List.getElem?_eq_none (by simp; omega)]
  rw [hrep] at hown0
  have hga := gb_alloc (gb_refl w none) (.cells (madeCells (Value.int .i64 0).cells (m * 1)) 3)
  obtain ⟨w0, hw0⟩ : ∃ w0, w.alloc (.cells (madeCells (Value.int .i64 0).cells (m * 1)) 3) = w0 := ⟨_, rfl⟩
  rw [hw0] at hmk hown0 hga
  clear hw0 hB0 hrep
  go_enter Tryd.func28, Tryd.ntmps28
  go_wp2
  clear hmk
  go_loopw [14] (fun i wr => ∃ k : Nat, k ≤ n ∧ i = .int .i64 k ∧ w.grownBy wr none ∧ wr.ownsRow w.heap.size 3 1 (.slice (some ⟨w.heap.size, 0, none⟩) m m) m ((fCounts left (ps.take k)).map (Value.int .i64)) ∧ Hid (∀ z ∈ fCounts left (ps.take k), 0 ≤ z ∧ z ≤ 99 * (k : Int))) (fun i _ => n - (intOf i).toNat)
  case atStart => exact ⟨0, Nat.zero_le _, rfl, hga, by rw [List.take_zero]; show World.ownsRow _ _ _ _ _ _ ((List.replicate left.length (0 : Int)).map _); rw [hyl.out]; exact hown0, Lib.hid (fun z hz => by
    rw [List.take_zero] at hz
    have hz : z ∈ List.replicate left.length (0 : Int) := hz
    have := (List.mem_replicate.1 hz).2
    omega)⟩
  case round =>
    obtain ⟨k, hk, rfl, hG, hown, hbd⟩ := hrel
    rename World => wr
    clear hown0
    by_cases hlt : k < n
    · obtain ⟨b, off, ⟨s, q⟩, rfl, _, _, hz, p0, p1⟩ := Piles.at_ (h.keep0 hG) hlt
      have hk' : (k : Int) < (n : Int) := by omega
      have hk0 : (0 : Int) ≤ (k : Int) := by omega
      have hmem := List.mem_of_getElem? hz.out
      have hpb := plOK_ballot (hall.out _ hmem)
      have hpm := plOK_many (hall.out _ hmem)
      have hft : ballotOK (ballotOf s) m = true := hfits.out _ hmem
      have hssz := Hs.out _ hmem
      have hga := gb_alloc (gb_refl wr none) (.cells #[.string s, .int .i64 q] 48)
      have hBk := Blk.new wr 48 #[.string s, .int .i64 q]
      have hstep : Hid (fCounts left (ps.take (k + 1)) = bump (fCounts left (ps.take k)) (bFirst left (ballotOf s)) q) := Lib.hid (by rw [take_succ_of hz.out, fCounts_snoc])
      have hbd' : Hid (∀ z ∈ bump (fCounts left (ps.take k)) (bFirst left (ballotOf s)) q, 0 ≤ z ∧ z ≤ 99 * ((k + 1 : Nat) : Int)) := Lib.hid (fun z hz' => by
        have := bump_bound (M := 99 * (k : Int)) hbd.out (by omega) (by have : 1 ≤ q ∧ q ≤ 99 := hpm; omega) z hz'
        omega)
      have hq0 : 0 ≤ q := by have : 1 ≤ q ∧ q ≤ 99 := hpm; omega
      have hq1 : q ≤ 99 := hpm.2
      have hfl := fCounts_len left (ps.take k)
      rw [hyl.out] at hfl
      clear hmem hpm
      go_wp2_with fail
      refine (c_ballot s q _ hssz hpb).mono ?_
      rintro e w3 ⟨B3, c3, rfl, hg3, hI3⟩
      have hB3 := hBk.grown hg3 (by simp)
      have hown3 := own_below hown (gb_trans hga hg3)
      have hG3 := gb_trans hG (gb_trans hga hg3)
      have h3' : Bls w3 lo' B m cap' left := Sl.keep0 h' hG3
      have hrg := bFirst_range (left := left) ((ballotOK_iff (ballotOf s) m).1 hft).2.2
      obtain ⟨N, hN⟩ : ∃ N, s.size = N := ⟨_, rfl⟩
      rw [hN] at hI3
      rw [hN]
      have hcall := c_BallotFirst _ _ B3 B N c3 m cap' (ballotOf s) left w3 hI3 h3' hft
      obtain ⟨cc, hcc⟩ : ∃ cc, bFirst left (ballotOf s) = cc := ⟨_, rfl⟩
      rw [hcc] at hcall hrg hstep hbd'
      have Hc := Lib.hid hcall
      have c1 := hB3.cell 1
      clear hN hpb hssz hga hg3 hBk hB3 hown hG hcall hcc hft hI3
      go_wp2_with fail
      refine Hc.out.mono ?_
      rintro e w4 ⟨rfl, rfl⟩
      clear Hc
      rcases hrg with rfl | ⟨hc0, hcm5⟩
      · go_wp2
        go_roundw
        case rel => exact ⟨k + 1, by omega, by go_num, hG3, by rw [hstep.out]; exact hown3, by rw [hstep.out]; exact hbd'⟩
        case measure => simp [intOf]; omega
      · obtain ⟨c, rfl⟩ : ∃ c : Nat, cc = (c : Int) := ⟨cc.toNat, by omega⟩
        have hcm : c < m := by omega
        have hcl : c < (fCounts left (ps.take k)).length := by rw [hfl]; exact hcm
        obtain ⟨F, hF⟩ : ∃ F, (fCounts left (ps.take k))[c]? = some F := ⟨_, List.getElem?_eq_getElem hcl⟩
        have hFb := hbd.out F (List.mem_of_getElem? hF)
        have hcell : w3.cell? ⟨w.heap.size, c, none⟩ = some (.int .i64 F) := by
          rw [hown3.cellAt c (by omega), List.getElem?_map, hF]
          rfl
        have hfro := hown3.frozenAt c
        obtain ⟨hst, hgs⟩ := hown3.stored c (.int .i64 (F + q))
        have hbump : Hid (bump (fCounts left (ps.take k)) (c : Int) q = (fCounts left (ps.take k)).set c (F + q)) := Lib.hid (by
          unfold bump
          rw [if_pos hc0, Int.toNat_natCast, List.getD_eq_getElem?_getD, hF]
          rfl)
        have hst' : w3.setCell ⟨w.heap.size, c, none⟩ (.int .i64 (F + q)) |>.ownsRow w.heap.size 3 1 (.slice (some ⟨w.heap.size, 0, none⟩) m m) m (((fCounts left (ps.take k)).set c (F + q)).map (Value.int .i64)) := by
          rw [List.map_set]; exact hst
        have hF0 : 0 ≤ F := hFb.1
        have hF1 : F ≤ 1188 := by have := hFb.2; omega
        have hadd : IntKind.i64.wrap (F + q) = F + q := IntWalk.i64_in _ (by omega)
        have hc00 : (0 : Int) ≤ (c : Int) := by omega
        have hcmi : (c : Int) < (m : Int) := by omega
        have Hst := Lib.hid hst'
        have HF := Lib.hid hF
        have HfK := Lib.hid (fun (x : World) (hx : w3.grownBy x none) => (own_below hown3 hx).frozenAt c)
        have HsK := Lib.hid (fun (x : World) (hx : w3.grownBy x none) => show (x.setCell ⟨w.heap.size, c, none⟩ (.int .i64 (F + q))).ownsRow w.heap.size 3 1 (.slice (some ⟨w.heap.size, 0, none⟩) m m) m (((fCounts left (ps.take k)).set c (F + q)).map (Value.int .i64)) from by rw [List.map_set]; exact ((own_below hown3 hx).stored c (.int .i64 (F + q))).1)
        clear hst hst' hF hFb hfl hgs
        go_wp2_with fail
        refine wp_known_tail w3 [_, _, _, _, _, _, _, _] _ [.slice (some ⟨w.heap.size, 0, none⟩) m m, .int .i64 c, .pointer (some ⟨w.heap.size, c, none⟩), .int .i64 F, .pointer (some ⟨wr.heap.size, 1, none⟩), .int .i64 q, .int .i64 (F + q), .pointer (some ⟨w.heap.size, c, none⟩)] rfl (gb_refl _ _) (by kernel_rfl) (by kernel_rfl) (by kernel_rfl) ?_ ?_
        · refine ⟨?_, ?_, ?_, ?_, ?_, ?_, ?_, ?_, trivial⟩
          all_goals
            intro nn u y hn hC hp
            simp [flowPreds, Region.binds, fKnown] at hp
            have n0 := gb_cell hC hcell (by simp)
            have n1 := gb_cell hC c1 (by simp)
            go_simp
          all_goals try exact ⟨gb_refl _ _, rfl⟩
        · intro u y hC hp'
          have e6 : u 6 = .int .i64 (F + q) := hp' 6 (by decide)
          have e7 : u 7 = .pointer (some ⟨w.heap.size, c, none⟩) := hp' 7 (by decide)
          have hfy := HfK.out y hC
          have hsy := HsK.out y hC
          have n0 := gb_cell hC hcell (by simp)
          go_simp
          go_wp2
          go_roundw
          case rel => exact ⟨k + 1, by omega, by go_num, gb_setCell (gb_trans hG3 hC) (.inr (Nat.le_refl _)) _, by rw [hstep.out, hbump.out]; exact hsy, by rw [hstep.out]; exact hbd'⟩
          case measure => simp [intOf]; omega
    · obtain rfl : k = n := by omega
      rw [List.take_of_length_le (by rw [hxl.out]; exact Nat.le_refl _)] at hown
      go_wp2
      go_ret
      exact ⟨_, rfl, hG, hown⟩

/-- First preferences, if the piles fit. -/
def fcRes (ps : List Pl) (left : List Bool) : List Int := if fitOK ps left.length then fCounts left ps else []
end Go.Proofs.YtipnalfkpalieaaDoor
