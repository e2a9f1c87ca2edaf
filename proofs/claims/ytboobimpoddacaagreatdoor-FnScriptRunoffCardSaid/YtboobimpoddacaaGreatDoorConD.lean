/-
  Who leaves: l12Least of the reference; the winner by plurality.
-/
import Derived.Test.YtboobimpoddacaaGreatDoorConC
namespace Go.Proofs.YtboobimpoddacaaGreatDoor
open Go.RowKit
set_option linter.unusedVariables false

theorem fStep_no {cs : List Int} {left : List Bool} {b : Int} {k : Nat} (h : left[k]? = some true) : fStep cs left b (k : Int) = b := by
  unfold fStep
  rw [Int.toNat_natCast, List.getD_eq_getElem?_getD, h]
  simp
theorem fStep_first {cs : List Int} {left : List Bool} {k : Nat} (h : left[k]? = some false) : fStep cs left (-1) (k : Int) = k := by
  unfold fStep
  rw [Int.toNat_natCast, List.getD_eq_getElem?_getD, h]
  rfl
theorem fStep_cmp {cs : List Int} {left : List Bool} {k q : Nat} {z y : Int} (h : left[k]? = some false) (hz : cs[k]? = some z) (hy : cs[q]? = some y) : fStep cs left (q : Int) (k : Int) = if z < y then (k : Int) else (q : Int) := by
  unfold fStep cAt
  rw [Int.toNat_natCast, Int.toNat_natCast, List.getD_eq_getElem?_getD, h, List.getD_eq_getElem?_getD, List.getD_eq_getElem?_getD, hz, hy]
  have : ¬ ((q : Int) < 0) := by omega
  simp [this]
theorem sStep_no {cs : List Int} {left : List Bool} {b : Int} {k : Nat} (h : left[k]? = some true) : sStep cs left b (k : Int) = b := by
  unfold sStep
  rw [Int.toNat_natCast, List.getD_eq_getElem?_getD, h]
  simp
theorem sStep_cmp {cs : List Int} {left : List Bool} {k q : Nat} {z y : Int} (h : left[k]? = some false) (hz : cs[k]? = some z) (hy : cs[q]? = some y) : sStep cs left (q : Int) (k : Int) = if z = y then (k : Int) else (q : Int) := by
  unfold sStep cAt
  rw [Int.toNat_natCast, Int.toNat_natCast, List.getD_eq_getElem?_getD, h, List.getD_eq_getElem?_getD, List.getD_eq_getElem?_getD, hz, hy]
  simp

set_option maxHeartbeats 4000000 in
theorem c_l12Least (lo lo' lo2 : Nat) (A B C : Option Addr) (n cap cap' cap2 : Nat) (cs : List Int) (left : List Bool) (lots : List Int) (w : World) (h : Ints w lo A n cap cs) (h' : Bls w lo' B n cap' left) (h2 : Ints w lo2 C n cap2 lots)
    (hr : ∀ z ∈ lots, 0 ≤ z ∧ z < (n : Int)) (hc : 1 ≤ left.count false) (hb : ∀ z ∈ cs, 0 ≤ z ∧ z ≤ 1188) (hn : n ≤ 5) :
    Calls Tryz.prog 135 #[.slice A n cap, .slice B n cap', .slice C n cap2] w fun e w' => e = .returned (.int .i64 (sLeast cs left lots n)) ∧ w.grownBy w' none := by
  have hlc := h.le
  have hcm := h.max
  have hxl := Lib.hid h.len
  have hlc' := Sl.le h'
  have hcm' := Sl.max h'
  have hyl := Lib.hid h'.len
  have hlc2 := h2.le
  have hcm2 := h2.max
  have hzl := Lib.hid h2.len
  have Hb := Lib.hid hb
  have Hr := Lib.hid hr
  have Hc := Lib.hid hc
  clear hb hr hc
  go_enter Tryz.func135, Tryz.ntmps135
  go_wp2
  go_loopw [7, 8] (fun v i wr => ∃ (k : Nat) (T : Option Addr) (c : Nat), k ≤ n ∧ i = .int .i64 k ∧ v = .slice T k c ∧ wr.ownsRow w.heap.size 3 1 (.slice T k c) k (((cs.take k).map (fun z => -z)).map (Value.int .i64)) ∧ Below w.heap.size w wr) (fun _ i _ => n - (intOf i).toNat)
  case atStart => exact ⟨0, _, _, Nat.zero_le _, rfl, rfl, own_empty _ _ _ _ (Nat.le_refl _), (Below.refl _ _).alloc (Nat.le_refl _) _⟩
  case round =>
    obtain ⟨k, T, c, hk, rfl, rfl, hown, hbe⟩ := hrel
    rename World => wr
    by_cases hlt : k < n
    · have hbs := hbe.size
      have hk' : (k : Int) < (n : Int) := by omega
      have hk0 : (0 : Int) ≤ (k : Int) := by omega
      have hIr := h.keep0 (gb_of_below hbe none)
      obtain ⟨b, off, z, rfl, hz, hcell⟩ := Ints.at_ hIr hlt
      have hzb := Hb.out z (List.mem_of_getElem? hz.out)
      obtain ⟨hz0, hz1⟩ := hzb
      have hw : IntKind.i64.wrap (0 - z) = -z := by rw [IntWalk.i64_in _ (by omega)]; omega
      have hw' : IntKind.i64.wrap (-z) = -z := IntWalk.i64_in _ (by omega)
      clear hIr
      go_wp2_with (at_builtin; refine wpList_app intE rfl _ _ rfl w.heap.size k _ _ rfl hown [_] rfl rfl (by simp [Value.oneCell']) (by omega) (by omega) hbs ?_; intro A' c' w1 hown1 hb1 hg1 hat1)
      go_roundw
      case rel => exact ⟨k + 1, A', c', by omega, by go_num, rfl, by rw [take_succ_of hz.out, List.map_append, List.map_append]; exact hown1, hbe.trans hb1⟩
      case measure => simp [intOf]; omega
    · obtain rfl : n = k := by omega
      rw [List.take_of_length_le (by rw [hxl.out]; exact Nat.le_refl _)] at hown
      have hG := gb_of_below hbe none
      have hT : Ints wr w.heap.size T n c (cs.map (fun z => -z)) := Sl.own hown
      have hI := h.keep0 hG
      have hL : Bls wr lo' B n cap' left := Sl.keep0 h' hG
      have hO := h2.keep0 hG
      have htc := hT.le
      have htm := hT.max
      clear hown hbe hlt hk h h' h2
      go_wp2
      go_loopw [9, 10] (fun v i wq => ∃ (k d : Nat) (F : Int), k ≤ n ∧ i = .int .i64 k ∧ v = .int .i64 F ∧ wq = wr.drewN d ∧ Hid (F = (iota k).foldl (fStep cs left) (-1)) ∧ (F = -1 ∨ ∃ q : Nat, F = (q : Int) ∧ q < k)) (fun _ i _ => n - (intOf i).toNat)
      case atStart => exact ⟨0, 0, -1, Nat.zero_le _, rfl, rfl, rfl, Lib.hid rfl, .inl rfl⟩
      case round =>
        obtain ⟨k, d, F, hk, rfl, rfl, rfl, hF, hFr⟩ := hrel
        by_cases hlt : k < n
        · obtain ⟨b', off', l, rfl, hl, hcell'⟩ := hL.at_ hlt
          obtain ⟨bt, offt, z', rfl, hz', hcellt⟩ := Ints.at_ hT hlt
          obtain ⟨z, hz⟩ : ∃ z, cs[k]? = some z := ⟨cs[k]'(by rw [hxl.out]; exact hlt), List.getElem?_eq_getElem _⟩
          have hzz : z' = -z := by
            have := hz'.out
            rw [List.getElem?_map, hz] at this
            injection this with this
            exact this.symm
          subst hzz
          have Hz := Lib.hid hz
          have hk' : (k : Int) < (n : Int) := by omega
          have hk0 : (0 : Int) ≤ (k : Int) := by omega
          have hst : Hid ((iota (k + 1)).foldl (fStep cs left) (-1) = fStep cs left F (k : Int)) := Lib.hid (by rw [iota_succ, List.foldl_append, hF.out]; rfl)
          clear hz hz' hF
          cases l with
          | true =>
            have hs2 := Lib.hid (fStep_no (cs := cs) (b := F) hl.out)
            go_wp2
            go_quiet (fail)
            go_wp2
            go_roundw
            case rel => exact ⟨k + 1, _, F, by omega, by go_num, rfl, rfl, Lib.hid (by rw [hst.out, hs2.out]), by rcases hFr with e | ⟨q, e, hq⟩; exact .inl e; exact .inr ⟨q, e, by omega⟩⟩
            case measure => simp [intOf]; omega
          | false =>
            rcases hFr with rfl | ⟨q, rfl, hq⟩
            · have hs2 := Lib.hid (fStep_first (cs := cs) hl.out)
              go_wp2
              go_quiet (fail)
              go_wp2
              go_roundw
              case rel => exact ⟨k + 1, _, (k : Int), by omega, by go_num, rfl, rfl, Lib.hid (by rw [hst.out, hs2.out]), .inr ⟨k, rfl, by omega⟩⟩
              case measure => simp [intOf]; omega
            · obtain ⟨b3, off3, y', he, hy', hcelly⟩ := Ints.at_ hT (show q < n by omega)
              injection he with he
              injection he with he1 he2
              subst he1 he2
              obtain ⟨y, hy⟩ : ∃ z, cs[q]? = some z := ⟨cs[q]'(by rw [hxl.out]; omega), List.getElem?_eq_getElem _⟩
              have hyy : y' = -y := by
                have := hy'.out
                rw [List.getElem?_map, hy] at this
                injection this with this
                exact this.symm
              subst hyy
              have hs2 := Lib.hid (fStep_cmp hl.out Hz.out hy)
              have hq' : (q : Int) < (n : Int) := by omega
              have hq0 : (0 : Int) ≤ (q : Int) := by omega
              have hqn : ¬ ((q : Int) < 0) := by omega
              clear hy hy'
              by_cases hzy : z < y
              · have hd : decide (-y < -z) = true := by simpa using hzy
                have hlt' : -y < -z := by omega
                go_wp2
                go_quiet (fail)
                go_wp2
                go_roundw
                case rel => exact ⟨k + 1, _, (k : Int), by omega, by go_num, rfl, rfl, Lib.hid (by rw [hst.out, hs2.out, if_pos (by omega)]), .inr ⟨k, rfl, by omega⟩⟩
                case measure => simp [intOf]; omega
              · have hd : decide (-y < -z) = false := by simp; omega
                have hlt' : ¬ (-y < -z) := by omega
                go_wp2
                go_quiet (fail)
                go_wp2
                go_roundw
                case rel => exact ⟨k + 1, _, (q : Int), by omega, by go_num, rfl, rfl, Lib.hid (by rw [hst.out, hs2.out, if_neg (by omega)]), .inr ⟨q, rfl, by omega⟩⟩
                case measure => simp [intOf]; omega
        · obtain rfl : n = k := by omega
          have hmem : ∃ q : Nat, F = (q : Int) ∧ q < n := by
            rcases hFr with e | h
            · exfalso
              rcases fPre (cs := cs) (left := left) n with ⟨h1, h2⟩ | ⟨h1, _⟩
              · obtain ⟨j, hj, hs⟩ := count_stays Hc.out
                rw [hyl.out] at hj
                refine h2 (j : Int) (mem_iota.2 (by omega)) ?_
                unfold stays
                rw [Int.toNat_natCast, List.getD_eq_getElem?_getD, hs]
                rfl
              · rw [← hF.out, e] at h1
                have := (mem_iota.1 h1).1
                omega
            · exact h
          obtain ⟨q, rfl, hq⟩ := hmem
          have hfin : Hid (sLeast cs left lots n = (lots.drop 0).foldl (sStep cs left) (q : Int)) := Lib.hid (by unfold sLeast; rw [← hF.out]; rfl)
          clear hF hFr hlt hk hT htc htm
          go_wp2
          go_loopw [9, 11] (fun v i wq => ∃ (k d q : Nat), k ≤ n ∧ i = .int .i64 k ∧ v = .int .i64 (q : Int) ∧ wq = wr.drewN d ∧ q < n ∧ Hid (sLeast cs left lots n = (lots.drop k).foldl (sStep cs left) (q : Int))) (fun _ i _ => n - (intOf i).toNat)
          case atStart => exact ⟨0, d, q, Nat.zero_le _, rfl, rfl, rfl, hq, hfin⟩
          case round =>
            obtain ⟨k, d, q, hk, rfl, rfl, rfl, hq, hpre⟩ := hrel
            clear hfin
            by_cases hlt : k < n
            · obtain ⟨bo, offo, z, rfl, hz, hcello⟩ := Ints.at_ hO hlt
              have hzr := Hr.out z (List.mem_of_getElem? hz.out)
              obtain ⟨c, rfl⟩ : ∃ c : Nat, z = (c : Int) := ⟨z.toNat, by omega⟩
              have hcn : c < n := by omega
              obtain ⟨b', off', l, rfl, hl, hcell'⟩ := hL.at_ hcn
              obtain ⟨bc, offc, u, rfl, hu, hcellu⟩ := Ints.at_ hI hcn
              obtain ⟨b3, off3, y, he, hy, hcelly⟩ := Ints.at_ hI hq
              injection he with he
              injection he with he1 he2
              subst he1 he2
              have hk' : (k : Int) < (n : Int) := by omega
              have hk0 : (0 : Int) ≤ (k : Int) := by omega
              have hc' : (c : Int) < (n : Int) := by omega
              have hc0 : (0 : Int) ≤ (c : Int) := by omega
              have hq' : (q : Int) < (n : Int) := by omega
              have hq0 : (0 : Int) ≤ (q : Int) := by omega
              have hst : Hid (sLeast cs left lots n = (lots.drop (k + 1)).foldl (sStep cs left) (sStep cs left (q : Int) (c : Int))) := Lib.hid (by rw [hpre.out, drop_cons' hz.out, List.foldl_cons])
              clear hpre hz hzr
              cases l with
              | true =>
                have hs2 := Lib.hid (sStep_no (cs := cs) (b := (q : Int)) hl.out)
                go_wp2
                go_quiet (fail)
                go_wp2
                go_roundw
                case rel => exact ⟨k + 1, _, q, by omega, by go_num, rfl, rfl, hq, Lib.hid (by rw [hst.out, hs2.out])⟩
                case measure => simp [intOf]; omega
              | false =>
                have hs2 := Lib.hid (sStep_cmp hl.out hu.out hy.out)
                clear hl hu hy
                by_cases huy : u = y
                · have hd : (u == y) = true := by simpa using huy
                  have Huy := Lib.hid huy
                  clear huy
                  go_wp2
                  go_quiet (fail)
                  go_wp2
                  go_roundw
                  case rel => exact ⟨k + 1, _, c, by omega, by go_num, rfl, rfl, hcn, Lib.hid (by rw [hst.out, hs2.out, if_pos Huy.out])⟩
                  case measure => simp [intOf]; omega
                · have hd : (u == y) = false := by simpa using huy
                  have Huy := Lib.hid huy
                  clear huy
                  go_wp2
                  go_quiet (fail)
                  go_wp2
                  go_roundw
                  case rel => exact ⟨k + 1, _, q, by omega, by go_num, rfl, rfl, hq, Lib.hid (by rw [hst.out, hs2.out, if_neg Huy.out])⟩
                  case measure => simp [intOf]; omega
            · obtain rfl : n = k := by omega
              go_wp2
              go_ret
              exact ⟨ret_int (by rw [hpre.out, List.drop_of_length_le (by rw [hzl.out]; exact Nat.le_refl _)]; rfl), gb_drewN hG d⟩
end Go.Proofs.YtboobimpoddacaaGreatDoor
