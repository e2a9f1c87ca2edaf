/-
  Lots and truths: LotsValid, LotsFirst, greatest and what they call.
-/
import Derived.Test.YtboobimpoddacaaGreatDoorPackB
import Derived.Test.YtboobimpoddacaaGreatDoorPairLaw
import Derived.Test.YtboobimpoddacaaGreatDoorPackA
namespace Go.Proofs.YtboobimpoddacaaGreatDoor
open Go.RowKit
set_option linter.unusedVariables false

theorem boolInfo : (Tryz.prog.info? 4).map (fun i => (i.zero, i.size, i.bytes)) = some (some (.bool false), 1, 1) := by kernel_rfl
theorem boolE : Elem Tryz.prog 78 4 1 1 (.bool false) := ⟨Tryz.underlying78, info_parts boolInfo, rfl, by omega⟩
theorem mk_row {P : Program} {t e : TypeId} {bytes : Nat} {z : Value} (E : Elem P t e 1 bytes z) (hz : z.cells = #[z]) (n : Nat) (hn : n ≤ 1000) (hb : bytes ≤ 100) (w : World) :
    ∃ w0, (Instr.makeSlice t (.int .i64 (n : Int)) (.int .i64 (n : Int))).run P w = .ok (.slice (some ⟨w.heap.size, 0, none⟩) n n) w0 ∧ w.grownBy w0 none ∧ w0.ownsRow w.heap.size e 1 (.slice (some ⟨w.heap.size, 0, none⟩) n n) n (List.replicate n z) := by
  have hB0 : Blk (w.alloc (.cells (madeCells z.cells (n * 1)) e)) w.heap.size e (madeCells z.cells (n * 1)) := Blk.new _ _ _
  have hown0 := own_of_blk (lo := w.heap.size) (size := 1) (n := n) hB0 (by rw [size_madeCells]) (by omega) (Nat.le_refl _)
  have hrep : (madeCells z.cells (n * 1)).toList = List.replicate n z := by
    apply List.ext_getElem?
    intro j
    rw [Array.getElem?_toList]
    by_cases hj : j < n
    · rw [List.getElem?_replicate, if_pos hj, hz]
      simp [madeCells, hj, Nat.mod_one]
    · rw [Array.getElem?_eq_none (by rw [size_madeCells]; omega), List.getElem?_eq_none (by simp; omega)]
  rw [hrep] at hown0
  exact ⟨_, run_mk E n (by omega) hb w, gb_alloc (gb_refl w none) _, hown0⟩
theorem mk_bools (n : Nat) (hn : n ≤ 1000) (w : World) :
    ∃ w0, (Instr.makeSlice 78 (.int .i64 (n : Int)) (.int .i64 (n : Int))).run Tryz.prog w = .ok (.slice (some ⟨w.heap.size, 0, none⟩) n n) w0 ∧ w.grownBy w0 none ∧ w0.ownsRow w.heap.size 4 1 (.slice (some ⟨w.heap.size, 0, none⟩) n n) n ((List.replicate n false).map Value.bool) := by
  rw [List.map_replicate]
  exact mk_row boolE rfl n hn (by omega) w
theorem mk_ints (n : Nat) (hn : n ≤ 1000) (w : World) :
    ∃ w0, (Instr.makeSlice 62 (.int .i64 (n : Int)) (.int .i64 (n : Int))).run Tryz.prog w = .ok (.slice (some ⟨w.heap.size, 0, none⟩) n n) w0 ∧ w.grownBy w0 none ∧ w0.ownsRow w.heap.size 3 1 (.slice (some ⟨w.heap.size, 0, none⟩) n n) n ((List.replicate n (0 : Int)).map (Value.int .i64)) := by
  rw [List.map_replicate]
  exact mk_row intE rfl n hn (by omega) w

theorem c_impl_LotsValid (lo : Nat) (A : Option Addr) (n cap : Nat) (xs : List Int) (w : World) (h : Ints w lo A n cap xs) :
    Calls Tryz.prog 93 #[.slice A n cap] w fun e w' => e = .returned (.bool (lotsValid xs)) ∧ w = w' := by
  have hlc := h.le
  have hcm := h.max
  have hxl := Lib.hid h.len
  by_cases h0 : n = 0
  · subst h0
    go_enter Tryz.func93, Tryz.ntmps93
    go_wp2
    go_ret
    refine ⟨ret_bool ?_, rfl⟩
    unfold lotsValid ballotOK
    rw [hxl.out]
    rfl
  · have h1 : (0 : Int) < (n : Int) := by omega
    go_enter Tryz.func93, Tryz.ntmps93
    go_wp2_with fail
    refine (c_impl_BallotValid lo A n cap xs _ _ h).mono ?_
    rintro e w1 ⟨rfl, rfl⟩
    go_wp2
    go_ret
    exact ⟨ret_bool (by rw [lotsValid, hxl.out]), rfl⟩

theorem c_spec_LotsValid (lo : Nat) (A : Option Addr) (n cap : Nat) (xs : List Int) (w : World) (h : Ints w lo A n cap xs) :
    Calls Tryz.prog 137 #[.slice A n cap] w fun e w' => e = .returned (.bool (lotsValid xs)) ∧ ∃ d, w' = w.drewN d := by
  have hlc := h.le
  have hcm := h.max
  have hxl := Lib.hid h.len
  have hfin : Hid (lotsValid xs = ballotOK xs (n : Int)) := Lib.hid (by rw [lotsValid, hxl.out])
  obtain ⟨q, hq⟩ : ∃ q, IntKind.i64.wrap ((n : Int) - 1) = q := ⟨_, rfl⟩
  have Hq : Hid (1 ≤ (n : Int) ∧ (n : Int) ≤ 5 → q = (n : Int) - 1) := Lib.hid (by rintro ⟨h1, h2⟩; rw [← hq]; exact IntWalk.i64_in _ (by omega))
  go_enter Tryz.func137, Tryz.ntmps137
  go_wp2
  go_loopw [3] (fun i wr => ∃ k d : Nat, k ≤ n ∧ i = .int .i64 k ∧ wr = w.drewN d ∧ Hid (1 ≤ (n : Int) ∧ (n : Int) ≤ 5 → vPre n xs k = true)) (fun i _ => n - (intOf i).toNat)
  case atStart => exact ⟨0, 0, Nat.zero_le _, rfl, rfl, Lib.hid (fun _ => rfl)⟩
  case round =>
    obtain ⟨k, d, hk, rfl, rfl, hpre⟩ := hrel
    by_cases hlt : k < n
    · obtain ⟨b, off, z, rfl, hz, hcell⟩ := h.at_ hlt
      have hk' : (k : Int) < (n : Int) := by omega
      have hkc : (k : Int) ≤ (cap : Int) := by omega
      by_cases h1 : inB z 0 q = true
      · by_cases hin : z ∈ xs.take k
        · have hd : decide (z ∈ xs.take k) = true := by simpa using hin
          have Hd := Lib.hid hd
          clear hin
          go_wp2
          go_quiet ((first | (go_at_call 63; exact quiet_add_left (c_l6In _ _ _ _)) | (go_at_call 132; exact quiet_add_left (c_l1Has lo _ _ _ (xs.take k) z _ (take_rd h (by omega))))))
          go_wp2
          go_ret
          exact ⟨ret_bool (by rw [hfin.out]; exact (ballot_bad' Hq.out hz.out (by rw [Hd.out]; simp)).symm), _, World.drewN_drewN _ _ _⟩
        · have hd : decide (z ∈ xs.take k) = false := by simpa using hin
          have Hd := Lib.hid hd
          clear hin
          go_wp2
          go_quiet ((first | (go_at_call 63; exact quiet_add_left (c_l6In _ _ _ _)) | (go_at_call 132; exact quiet_add_left (c_l1Has lo _ _ _ (xs.take k) z _ (take_rd h (by omega))))))
          have H1 := Lib.hid h1
          clear h1 hd hq
          go_wp2
          go_roundw
          case rel => exact ⟨k + 1, _, by omega, by go_num, rfl, Lib.hid (fun hm => by rw [vPre_step hz.out, hpre.out hm, Hd.out, ← Hq.out hm, H1.out]; rfl)⟩
          case measure => simp [intOf]; omega
      · have h1' : inB z 0 q = false := by simpa using h1
        have H1 := Lib.hid h1'
        clear h1
        go_wp2
        go_quiet ((first | (go_at_call 63; exact quiet_add_left (c_l6In _ _ _ _))))
        go_wp2
        go_ret
        exact ⟨ret_bool (by rw [hfin.out]; exact (ballot_bad' Hq.out hz.out (by rw [H1.out]; rfl)).symm), _, World.drewN_drewN _ _ _⟩
    · go_wp2_with (go_at_call 63; refine (c_l6In _ _ _ _).mono ?_; rintro e w' ⟨rfl, rfl⟩)
      go_ret
      refine ⟨ret_bool ?_, _, rfl⟩
      rw [hfin.out]
      unfold ballotOK
      rw [hxl.out]
      obtain rfl : k = n := by omega
      cases hb : inB (k : Int) 1 5 with
      | false => rfl
      | true => rw [hpre.out (by simpa [inB] using hb)]; rfl

theorem valid_range {xs : List Int} (h : lotsValid xs = true) : ∀ z ∈ xs, 0 ≤ z ∧ z < (xs.length : Int) := ((ballotOK_iff xs _).1 h).2.2

theorem c_l4First (lo lo' : Nat) (A B : Option Addr) (n cap m cap' : Nat) (xs : List Int) (bs : List Bool) (w : World) (h : Ints w lo A n cap xs) (h' : Bls w lo' B m cap' bs) (hr : ∀ z ∈ xs, 0 ≤ z ∧ z < (m : Int)) :
    Calls Tryz.prog 106 #[.slice A n cap, .slice B m cap'] w fun e w' => e = .returned (.int .i64 (firstOf xs bs)) ∧ w = w' := by
  have hlc := h.le
  have hcm := h.max
  have hxl := Lib.hid h.len
  have hlc' := Sl.le h'
  have hcm' := Sl.max h'
  have hall := Lib.hid hr
  clear hr
  go_enter Tryz.func106, Tryz.ntmps106
  go_wp2
  go_loop [5] (fun i => ∃ k : Nat, k ≤ n ∧ i = .int .i64 k ∧ Hid (firstOf xs bs = firstOf (xs.drop k) bs)) (fun i => n - (intOf i).toNat)
  case atStart => exact ⟨0, Nat.zero_le _, rfl, Lib.hid rfl⟩
  case round =>
    obtain ⟨k, hk, rfl, hpre⟩ := hrel
    by_cases hlt : k < n
    · obtain ⟨b, off, z, rfl, hz, hcell⟩ := h.at_ hlt
      have hzr := hall.out z (List.mem_of_getElem? hz.out)
      obtain ⟨c, rfl⟩ : ∃ c : Nat, z = (c : Int) := ⟨z.toNat, by omega⟩
      have hcm : c < m := by omega
      obtain ⟨b', off', l, rfl, hl, hcell'⟩ := h'.at_ hcm
      have hk' : (k : Int) < (n : Int) := by omega
      have hk0 : (0 : Int) ≤ (k : Int) := by omega
      have hc0 : (0 : Int) ≤ (c : Int) := by omega
      have hcm' : (c : Int) < (m : Int) := by omega
      have hst : Hid (firstOf (xs.drop k) bs = if l = true then (c : Int) else firstOf (xs.drop (k + 1)) bs) := Lib.hid (by
        rw [drop_cons' hz.out, firstOf_cons, Int.toNat_natCast, List.getD_eq_getElem?_getD, hl.out]
        rfl)
      clear hz hl hzr
      cases l with
      | true =>
        go_wp2
        go_ret
        exact ⟨ret_int (by rw [hpre.out, hst.out]; simp), rfl⟩
      | false =>
        go_wp2
        go_round
        case rel => exact ⟨k + 1, by omega, by go_num, Lib.hid (by rw [hpre.out, hst.out]; simp)⟩
        case measure => simp [intOf]; omega
    · obtain rfl : k = n := by omega
      go_wp2
      go_ret
      exact ⟨ret_int (by rw [hpre.out, List.drop_of_length_le (by rw [hxl.out]; exact Nat.le_refl _)]; rfl), rfl⟩

theorem c_LotsFirst (lo lo' : Nat) (A B : Option Addr) (n cap cap' : Nat) (xs : List Int) (bs : List Bool) (w : World) (h : Ints w lo A n cap xs) (h' : Bls w lo' B n cap' bs) (hv : lotsValid xs = true) :
    Calls Tryz.prog 87 #[.slice A n cap, .slice B n cap'] w fun e w' => e = .returned (.int .i64 (firstOf xs bs)) ∧ w = w' := by
  have hlc := h.le
  have hcm := h.max
  have hxl := Lib.hid h.len
  have hlc' := Sl.le h'
  have hcm' := Sl.max h'
  have hall := Lib.hid (valid_range hv)
  have Hv := Lib.hid hv
  clear hv
  have hnn : ((n : Int) != (n : Int)) = false := by simp
  go_enter Tryz.func87, Tryz.ntmps87
  go_wp2_with fail
  refine (c_impl_LotsValid lo A n cap xs _ h).mono ?_
  rintro e w1 ⟨rfl, rfl⟩
  rw [Hv.out]
  go_wp2
  go_loop [19] (fun i => ∃ k : Nat, k ≤ n ∧ i = .int .i64 k ∧ Hid (firstOf xs bs = firstOf (xs.drop k) bs)) (fun i => n - (intOf i).toNat)
  case atStart => exact ⟨0, Nat.zero_le _, rfl, Lib.hid rfl⟩
  case round =>
    obtain ⟨k, hk, rfl, hpre⟩ := hrel
    by_cases hlt : k < n
    · obtain ⟨b, off, z, rfl, hz, hcell⟩ := h.at_ hlt
      have hzr := hall.out z (List.mem_of_getElem? hz.out)
      rw [hxl.out] at hzr
      obtain ⟨c, rfl⟩ : ∃ c : Nat, z = (c : Int) := ⟨z.toNat, by omega⟩
      have hcm : c < n := by omega
      obtain ⟨b', off', l, rfl, hl, hcell'⟩ := h'.at_ hcm
      have hk' : (k : Int) < (n : Int) := by omega
      have hk0 : (0 : Int) ≤ (k : Int) := by omega
      have hc0 : (0 : Int) ≤ (c : Int) := by omega
      have hcm' : (c : Int) < (n : Int) := by omega
      have hst : Hid (firstOf (xs.drop k) bs = if l = true then (c : Int) else firstOf (xs.drop (k + 1)) bs) := Lib.hid (by
        rw [drop_cons' hz.out, firstOf_cons, Int.toNat_natCast, List.getD_eq_getElem?_getD, hl.out]
        rfl)
      clear hz hl hzr
      cases l with
      | true =>
        go_wp2
        go_ret
        exact ⟨ret_int (by rw [hpre.out, hst.out]; simp), rfl⟩
      | false =>
        go_wp2
        go_round
        case rel => exact ⟨k + 1, by omega, by go_num, Lib.hid (by rw [hpre.out, hst.out]; simp)⟩
        case measure => simp [intOf]; omega
    · obtain rfl : k = n := by omega
      go_wp2
      go_ret
      exact ⟨ret_int (by rw [hpre.out, List.drop_of_length_le (by rw [hxl.out]; exact Nat.le_refl _)]; rfl), rfl⟩

theorem c_greatest (lo lo' : Nat) (A B : Option Addr) (n cap m cap' : Nat) (xs cs : List Int) (w : World) (h : Ints w lo A n cap xs) (h' : Ints w lo' B m cap' cs) (hr : ∀ z ∈ xs, 0 ≤ z ∧ z < (m : Int)) (hn : 0 < n) :
    Calls Tryz.prog 122 #[.slice B m cap', .slice A n cap] w fun e w' => e = .returned (.int .i64 (gBest cs xs)) ∧ ∃ d, w' = w.drewN d := by
  have hlc := h.le
  have hcm := h.max
  have hxl := Lib.hid h.len
  have hlc' := h'.le
  have hcm' := h'.max
  have hall := Lib.hid hr
  clear hr
  obtain ⟨b, off, z0, rfl, hz0, hcell0⟩ := h.at_ hn
  rw [Nat.add_zero] at hcell0
  have hb0 : Hid (gBest cs xs = (xs.drop 0).foldl (gStep cs) z0 ∧ z0 ∈ xs) := Lib.hid (by
    refine ⟨?_, List.mem_of_getElem? hz0.out⟩
    unfold gBest
    cases xs with
    | nil => simp at hz0; exact absurd hz0.out (by simp)
    | cons a l =>
      have := hz0.out
      simp at this
      subst this
      rfl)
  clear hz0
  have hn0 : (0 : Int) < (n : Int) := by omega
  go_enter Tryz.func122, Tryz.ntmps122
  go_wp2
  go_loopw [5, 13] (fun y i wr => ∃ (k d : Nat) (best : Int), k ≤ n ∧ i = .int .i64 k ∧ y = .int .i64 best ∧ wr = w.drewN d ∧ Hid (gBest cs xs = (xs.drop k).foldl (gStep cs) best ∧ best ∈ xs)) (fun _ i _ => n - (intOf i).toNat)
  case atStart => exact ⟨0, 0, z0, Nat.zero_le _, rfl, rfl, rfl, hb0⟩
  case round =>
    obtain ⟨k, d, best, hk, rfl, rfl, rfl, hpre⟩ := hrel
    clear hb0 hcell0
    by_cases hlt : k < n
    · obtain ⟨b1, off1, z, he, hz, hcell⟩ := h.at_ hlt
      injection he with he
      injection he with he1 he2
      subst he1 he2
      have hmem := List.mem_of_getElem? hz.out
      have hzr := hall.out z hmem
      obtain ⟨c, rfl⟩ : ∃ c : Nat, z = (c : Int) := ⟨z.toNat, by omega⟩
      have hbr := hall.out best hpre.out.2
      obtain ⟨q, rfl⟩ : ∃ q : Nat, best = (q : Int) := ⟨best.toNat, by omega⟩
      have hcm1 : c < m := by omega
      have hqm1 : q < m := by omega
      obtain ⟨b', off', u, rfl, hu, hcellu⟩ := h'.at_ hcm1
      obtain ⟨b2, off2, v, he, hv, hcellv⟩ := h'.at_ hqm1
      injection he with he
      injection he with he1 he2
      subst he1 he2
      have hk' : (k : Int) < (n : Int) := by omega
      have hk0 : (0 : Int) ≤ (k : Int) := by omega
      have hc0 : (0 : Int) ≤ (c : Int) := by omega
      have hcm' : (c : Int) < (m : Int) := by omega
      have hq0 : (0 : Int) ≤ (q : Int) := by omega
      have hqm' : (q : Int) < (m : Int) := by omega
      have hst : Hid (gBest cs xs = (xs.drop (k + 1)).foldl (gStep cs) (if v < u then (c : Int) else (q : Int))) := Lib.hid (by
        rw [hpre.out.1, drop_cons' hz.out, List.foldl_cons]
        congr 1
        unfold gStep cAt
        rw [Int.toNat_natCast, Int.toNat_natCast, List.getD_eq_getElem?_getD, List.getD_eq_getElem?_getD, hv.out, hu.out]
        rfl)
      have hmq : Hid ((c : Int) ∈ xs ∧ (q : Int) ∈ xs) := Lib.hid ⟨hmem, hpre.out.2⟩
      clear hz hu hv hzr hbr hmem hpre
      by_cases huv : v < u
      · have hd : decide (v < u) = true := by simpa using huv
        go_wp2
        go_quiet (fail)
        go_wp2
        go_roundw
        case rel => exact ⟨k + 1, _, _, by omega, by go_num, rfl, rfl, Lib.hid ⟨by rw [hst.out, if_pos huv], hmq.out.1⟩⟩
        case measure => simp [intOf]; omega
      · have hd : decide (v < u) = false := by simpa using huv
        go_wp2
        go_quiet (fail)
        go_wp2
        go_roundw
        case rel => exact ⟨k + 1, _, _, by omega, by go_num, rfl, rfl, Lib.hid ⟨by rw [hst.out, if_neg (by omega)], hmq.out.2⟩⟩
        case measure => simp [intOf]; omega
    · obtain rfl : k = n := by omega
      go_wp2
      go_ret
      exact ⟨ret_int (by rw [hpre.out.1, List.drop_of_length_le (by rw [hxl.out]; exact Nat.le_refl _)]; rfl), d, rfl⟩


theorem c_l11All (n : Nat) (w : World) (hn : n ≤ 1000) :
    Calls Tryz.prog 157 #[.int .i64 n] w fun e w' => ∃ A c, e = .returned (.slice A n c) ∧ w.grownBy w' none ∧ w'.ownsRow w.heap.size 4 1 (.slice A n c) n ((List.replicate n true).map Value.bool) := by
  go_enter Tryz.func157, Tryz.ntmps157
  go_wp2
  go_loopw [3, 4] (fun v i wr => ∃ (k : Nat) (A : Option Addr) (c : Nat), k ≤ n ∧ i = .int .i64 k ∧ v = .slice A k c ∧ wr.ownsRow w.heap.size 4 1 (.slice A k c) k ((List.replicate k true).map Value.bool) ∧ Below w.heap.size w wr) (fun _ i _ => n - (intOf i).toNat)
  case atStart => exact ⟨0, _, _, Nat.zero_le _, rfl, rfl, own_empty _ _ _ _ (Nat.le_refl _), (Below.refl _ _).alloc (Nat.le_refl _) _⟩
  case round =>
    obtain ⟨k, A, c, hk, rfl, rfl, hown, hb⟩ := hrel
    by_cases hlt : k < n
    · have hbs := hb.size
      go_wp2_with (at_builtin; refine wpList_app boolE rfl _ _ rfl w.heap.size k _ _ rfl hown [_] rfl rfl (by simp [Value.oneCell']) (by omega) (by omega) hbs ?_; intro A' c' w1 hown1 hb1 hg1 hat1)
      go_roundw
      case rel => exact ⟨k + 1, A', c', by omega, by go_num, rfl, by rw [List.replicate_succ', List.map_append]; exact hown1, hb.trans hb1⟩
      case measure => simp [intOf]; omega
    · obtain rfl : k = n := by omega
      go_wp2
      go_ret
      exact ⟨A, c, rfl, gb_of_below hb none, hown⟩

theorem someB_take (xs : List Int) (n k : Nat) (hk : k < n) : (someB xs n).take (k + 1) = (someB xs n).take k ++ [decide ((k : Int) ∈ xs)] := by
  refine take_succ_of ?_
  unfold someB
  rw [List.getElem?_map, iota_at hk]
  rfl
theorem c_l42Some (lo : Nat) (A : Option Addr) (m cap : Nat) (xs : List Int) (n : Nat) (w : World) (h : Ints w lo A m cap xs) (hn : n ≤ 1000) :
    Calls Tryz.prog 107 #[.slice A m cap, .int .i64 n] w fun e w' => ∃ B c, e = .returned (.slice B n c) ∧ w.grownBy w' none ∧ w'.ownsRow w.heap.size 4 1 (.slice B n c) n ((someB xs n).map Value.bool) := by
  have hlc := h.le
  have hcm := h.max
  go_enter Tryz.func107, Tryz.ntmps107
  go_wp2
  go_loopw [5, 6] (fun v i wr => ∃ (k : Nat) (B : Option Addr) (c : Nat), k ≤ n ∧ i = .int .i64 k ∧ v = .slice B k c ∧ wr.ownsRow w.heap.size 4 1 (.slice B k c) k (((someB xs n).take k).map Value.bool) ∧ Below w.heap.size w wr) (fun _ i _ => n - (intOf i).toNat)
  case atStart => exact ⟨0, _, _, Nat.zero_le _, rfl, rfl, own_empty _ _ _ _ (Nat.le_refl _), (Below.refl _ _).alloc (Nat.le_refl _) _⟩
  case round =>
    obtain ⟨k, B, c, hk, rfl, rfl, hown, hb⟩ := hrel
    rename World => wr
    by_cases hlt : k < n
    · have hbs := hb.size
      have hk' : (k : Int) < (n : Int) := by omega
      have hI := h.keep0 (gb_of_below hb none)
      have hst := Lib.hid (someB_take xs n k hlt)
      have hcall := Lib.hid (c_l1Has lo A m cap xs (k : Int) wr hI)
      obtain ⟨D, hD⟩ : ∃ D, decide ((k : Int) ∈ xs) = D := ⟨_, rfl⟩
      rw [hD] at hst hcall
      clear hD hI
      go_wp2_with fail
      refine hcall.out.mono ?_
      rintro e w2 ⟨rfl, rfl⟩
      clear hcall
      go_wp2_with (at_builtin; refine wpList_app boolE rfl _ _ rfl w.heap.size k _ _ rfl hown [_] rfl rfl (by simp [Value.oneCell']) (by omega) (by omega) hbs ?_; intro A' c' w1 hown1 hb1 hg1 hat1)
      go_roundw
      case rel => exact ⟨k + 1, A', c', by omega, by go_num, rfl, by rw [hst.out, List.map_append]; exact hown1, hb.trans hb1⟩
      case measure => simp [intOf]; omega
    · obtain rfl : k = n := by omega
      rw [List.take_of_length_le (by rw [someB_len]; exact Nat.le_refl _)] at hown
      go_wp2
      go_ret
      exact ⟨B, c, rfl, gb_of_below hb none, hown⟩

theorem c_l12Stay (lo : Nat) (A : Option Addr) (n cap : Nat) (bs : List Bool) (w : World) (h : Bls w lo A n cap bs) (hn : n ≤ 1000) :
    Calls Tryz.prog 141 #[.slice A n cap] w fun e w' => ∃ B c, e = .returned (.slice B n c) ∧ w.grownBy w' none ∧ w'.ownsRow w.heap.size 4 1 (.slice B n c) n ((bs.map (!·)).map Value.bool) := by
  have hlc := Sl.le h
  have hcm := Sl.max h
  have hxl := Lib.hid h.len
  go_enter Tryz.func141, Tryz.ntmps141
  go_wp2
  go_loopw [3, 4] (fun v i wr => ∃ (k : Nat) (B : Option Addr) (c : Nat), k ≤ n ∧ i = .int .i64 k ∧ v = .slice B k c ∧ wr.ownsRow w.heap.size 4 1 (.slice B k c) k (((bs.take k).map (!·)).map Value.bool) ∧ Below w.heap.size w wr) (fun _ i _ => n - (intOf i).toNat)
  case atStart => exact ⟨0, _, _, Nat.zero_le _, rfl, rfl, own_empty _ _ _ _ (Nat.le_refl _), (Below.refl _ _).alloc (Nat.le_refl _) _⟩
  case round =>
    obtain ⟨k, B, c, hk, rfl, rfl, hown, hb⟩ := hrel
    rename World => wr
    by_cases hlt : k < n
    · have hbs := hb.size
      have hk' : (k : Int) < (n : Int) := by omega
      have hI : Bls wr lo A n cap bs := Sl.keep0 h (gb_of_below hb none)
      obtain ⟨b, off, l, rfl, hl, hcell⟩ := hI.at_ hlt
      go_wp2_with (at_builtin; refine wpList_app boolE rfl _ _ rfl w.heap.size k _ _ rfl hown [_] rfl rfl (by simp [Value.oneCell']) (by omega) (by omega) hbs ?_; intro A' c' w1 hown1 hb1 hg1 hat1)
      go_roundw
      case rel => exact ⟨k + 1, A', c', by omega, by go_num, rfl, by rw [take_succ_of hl.out, List.map_append, List.map_append]; exact hown1, hb.trans hb1⟩
      case measure => simp [intOf]; omega
    · obtain rfl : k = n := by omega
      rw [List.take_of_length_le (by rw [hxl.out]; exact Nat.le_refl _)] at hown
      go_wp2
      go_ret
      exact ⟨B, c, rfl, gb_of_below hb none, hown⟩

theorem c_l12Many (lo : Nat) (A : Option Addr) (n cap : Nat) (bs : List Bool) (w : World) (h : Bls w lo A n cap bs) :
    Calls Tryz.prog 156 #[.slice A n cap] w fun e w' => e = .returned (.int .i64 (bs.count false : Nat)) ∧ w = w' := by
  have hlc := Sl.le h
  have hcm := Sl.max h
  have hxl := Lib.hid h.len
  go_enter Tryz.func156, Tryz.ntmps156
  go_wp2
  go_loop [3, 4] (fun v i => ∃ k s : Nat, k ≤ n ∧ i = .int .i64 k ∧ v = .int .i64 s ∧ s ≤ k ∧ Hid (s = (bs.take k).count false)) (fun _ i => n - (intOf i).toNat)
  case atStart => exact ⟨0, 0, Nat.zero_le _, rfl, rfl, Nat.le_refl _, Lib.hid rfl⟩
  case round =>
    obtain ⟨k, s, hk, rfl, rfl, hsk, hpre⟩ := hrel
    by_cases hlt : k < n
    · obtain ⟨b, off, l, rfl, hl, hcell⟩ := h.at_ hlt
      have hk' : (k : Int) < (n : Int) := by omega
      cases l with
      | true =>
        go_wp2
        go_round
        case rel => exact ⟨k + 1, s, by omega, by go_num, rfl, by omega, Lib.hid (by rw [take_succ_of hl.out, List.count_append, hpre.out]; rfl)⟩
        case measure => simp [intOf]; omega
      | false =>
        go_wp2
        go_round
        case rel => exact ⟨k + 1, s + 1, by omega, by go_num, by go_num, by omega, Lib.hid (by rw [take_succ_of hl.out, List.count_append, hpre.out]; rfl)⟩
        case measure => simp [intOf]; omega
    · obtain rfl : k = n := by omega
      have he := Lib.hid (show s = bs.count false by rw [hpre.out, List.take_of_length_le (by rw [hxl.out]; exact Nat.le_refl _)])
      go_wp2
      go_ret
      exact ⟨ret_int (by rw [he.out]), rfl⟩
end Go.Proofs.YtboobimpoddacaaGreatDoor
