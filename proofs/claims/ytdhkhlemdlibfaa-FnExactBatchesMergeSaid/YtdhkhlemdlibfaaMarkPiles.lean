/-
  How the laws mark piles and see whether they are still marked.
-/
import Derived.Test.YtdhkhlemdlibfaaOwn
import Derived.Test.YtdhkhlemdlibfaaKnown
import Derived.Test.YtdhkhlemdlibfaaTo
import Derived.Laws.IdiomStrings
import Derived.Laws.Concat
namespace Go.Proofs.Ytdhkhlemdlibfaa
open Go.RowKit
set_option linter.unusedVariables false

theorem own_addr1 {w : World} {lo e size n c : Nat} {A : Option Addr} {xs : List Value} (h : w.ownsRow lo e size (.slice A n c) n xs) (hn : 0 < n) : ∃ g, A = some ⟨g, 0, none⟩ ∧ lo ≤ g ∧ g < w.heap.size := by
  rcases h.2 with ⟨h1, h2⟩ | ⟨g, cap, cur, h1, hg, hh, _⟩
  · omega
  · injection h1 with h1
    exact ⟨g, h1, hg, Blk.lt hh⟩
def markDig (k : Nat) (t : ByteArray) : ByteArray := if k = 0 then t else markDig (k / 10) (⟨#[(48 + k % 10).toUInt8]⟩ ++ t)
termination_by k
decreasing_by omega
theorem markDig_zero (t : ByteArray) : markDig 0 t = t := by rw [markDig.eq_def, if_pos rfl]
theorem markDig_pos {k : Nat} (h : 0 < k) (t : ByteArray) : markDig k t = markDig (k / 10) (⟨#[(48 + k % 10).toUInt8]⟩ ++ t) := by rw [markDig.eq_def, if_neg (by omega)]
/-- The text that marks with a number from 1 on. -/
def markT (k : Nat) : ByteArray := ⟨#[109]⟩ ++ markDig k ⟨#[]⟩

set_option maxHeartbeats 400000 in
theorem c_markT (k : Nat) (w : World) (hk : 1 ≤ k) (hk' : k ≤ 10000000000000) :
    Calls Try.prog 54 #[.int .i64 (k : Int)] w fun e w' => e = .returned (.string (markT k)) ∧ w.grownBy w' none := by
  go_enter Try.func54, Try.ntmps54
  go_wp2
  go_loopw [0, 3] (fun a v wr => ∃ (j : Nat) (t : ByteArray), a = .int .i64 (j : Int) ∧ v = .string t ∧ t.size + j ≤ 10000000000000 ∧ w.grownBy wr none ∧ Hid (markDig j t = markDig k ⟨#[]⟩)) (fun a _ _ => (intOf a).toNat)
  case atStart => exact ⟨k, _, rfl, rfl, by show 0 + k ≤ 10000000000000; omega, gb_refl _ _, Lib.hid rfl⟩
  case round =>
    obtain ⟨j, t, rfl, rfl, hsz, hG, hd⟩ := hrel
    by_cases hj : 0 < j
    · have hadd : ∀ (u : UInt8) (wx : World), (Op.stringOp .add ⟨#[u]⟩ t).run Try.prog wx = .ok (.string (⟨#[u]⟩ ++ t)) wx := fun u wx => run_string_add_sum (w := wx) _ _ (by show 1 + t.size ≤ _; omega)
      obtain ⟨u, hu⟩ : ∃ u : UInt8, u = (48 + j % 10).toUInt8 := ⟨_, rfl⟩
      have huv : (48 : Int) + (j : Int) % 10 = (u.toNat : Int) := by
        have : (48 + j % 10).toUInt8.toNat = 48 + j % 10 := by
          rw [Nat.toUInt8, UInt8.toNat_ofNat']
          omega
        rw [hu, this]
        omega
      have Hu := Lib.hid hu
      clear hu
      have hconv : ∀ wx : World, (convert 22 9 (.slice (some ⟨wx.heap.size, 0, none⟩) 1 1)).run Try.prog (wx.alloc (.cells #[.int .u8 (u.toNat : Int)] 5)) = .ok (.string ⟨#[u]⟩) (wx.alloc (.cells #[.int .u8 (u.toNat : Int)] 5)) := by
        intro wx
        refine run_convert_bytes_back _ _ _ _ _ 1 [u] Try.underlying22 Try.underlying5 Try.underlying9 ?_
        intro k hk
        have hk : k = 0 := by simpa using hk
        subst hk
        exact World.cell?_alloc_new wx _ _ 0
      have hadd := hadd u
      have hu8 : u.toNat < 256 := UInt8.toNat_lt u
      go_wp2
      go_roundw
      case rel => exact ⟨j / 10, ⟨#[u]⟩ ++ t, by go_num, rfl, by
        have : (⟨#[u]⟩ ++ t : ByteArray).size = 1 + t.size := by rw [ByteArray.size_append]; rfl
        omega, gb_alloc hG _, Lib.hid (by rw [← hd.out, markDig_pos hj, Hu.out])⟩
      case measure => simp [intOf]; omega
    · have hadd : ∀ (wx : World), (Op.stringOp .add ⟨#[109]⟩ t).run Try.prog wx = .ok (.string (⟨#[109]⟩ ++ t)) wx := fun wx => run_string_add_sum (w := wx) _ _ (by show 1 + t.size ≤ _; omega)
      obtain rfl : j = 0 := by omega
      go_wp2
      go_ret
      exact ⟨ret_str (by rw [markT, ← hd.out, markDig_zero]), hG⟩

/-- n piles, marked from k on. -/
def markPl (k n : Nat) : List Pl := (List.range n).map fun j => (markT (k + 2 * j), ((k + 2 * j + 1 : Nat) : Int))
theorem markPl_len (k n : Nat) : (markPl k n).length = n := by simp [markPl]
theorem markPl_at {k n j : Nat} (h : j < n) : (markPl k n)[j]? = some (markT (k + 2 * j), ((k + 2 * j + 1 : Nat) : Int)) := by
  unfold markPl
  rw [List.getElem?_map, List.getElem?_range h]
  rfl

set_option maxHeartbeats 1000000 in
theorem c_markPileS (lo : Nat) (A : Option Addr) (n c k : Nat) (xs : List Pl) (w : World) (h : w.ownsRow lo 55 2 (.slice A n c) n (cellsOf plCells xs)) (hxl : xs.length = n) (hk : 1 ≤ k) (hb : k + 2 * n ≤ 10000000000000) :
    Calls Try.prog 38 #[.slice A n c, .int .i64 (k : Int)] w fun e w' => e = .returned (.int .i64 ((k + 2 * n : Nat) : Int)) ∧ w.grownBy w' (Value.slice A n c).ownBlock ∧ w'.ownsRow lo 55 2 (.slice A n c) n (cellsOf plCells (markPl k n)) := by
  have hlc := (Sl.own h).le
  have hcm := (Sl.own h).max
  have Hxl := Lib.hid hxl
  clear hxl
  go_enter Try.func38, Try.ntmps38
  go_wp2
  go_loopw [1, 5] (fun a i wr => ∃ (j : Nat) (ys : List Pl), j ≤ n ∧ i = .int .i64 (j : Int) ∧ a = .int .i64 ((k + 2 * j : Nat) : Int) ∧ wr.ownsRow lo 55 2 (.slice A n c) n (cellsOf plCells ys) ∧ w.grownBy wr (Value.slice A n c).ownBlock ∧ Hid (ys.length = n) ∧ Hid (∀ i, i < j → ys[i]? = (markPl k n)[i]?)) (fun _ i _ => n - (intOf i).toNat)
  case atStart => exact ⟨0, xs, Nat.zero_le _, rfl, rfl, h, gb_refl _ _, Hxl, Lib.hid (by omega)⟩
  case round =>
    obtain ⟨j, ys, hj, rfl, rfl, hown, hG, hyl, hpre⟩ := hrel
    by_cases hlt : j < n
    · obtain ⟨K, hK⟩ : ∃ K : Nat, k + 2 * j = K := ⟨_, rfl⟩
      have HK := Lib.hid hK
      have hK1 : 1 ≤ K := by omega
      have hK2 : K + 2 ≤ 10000000000000 := by omega
      rw [hK]
      clear hK
      obtain ⟨y, hy⟩ : ∃ y, ys[j]? = some y := ⟨ys[j]'(by rw [hyl.out]; exact hlt), List.getElem?_eq_getElem _⟩
      obtain ⟨g, rfl, hg0, hg1'⟩ := own_addr1 hown (by omega)
      go_wp2_with fail
      refine (c_markT K _ hK1 (by omega)).mono ?_
      rintro e w1 ⟨rfl, hg1⟩
      have hown1 := own_below hown hg1
      obtain ⟨s, hs⟩ : ∃ s, markT K = s := ⟨_, rfl⟩
      have Hs := Lib.hid hs
      rw [hs]
      clear hs
      have hj' : (j : Int) < (n : Int) := by omega
      have hl2 : ys.length = n := hyl.out
      have hcl := cellsOf_len plCells_len ys
      obtain ⟨u0, hu0⟩ : ∃ u, w1.cell? ⟨g, j * 2, none⟩ = some u := by
        rw [hown1.cellAt (j * 2) (by omega)]
        exact ⟨_, List.getElem?_eq_getElem (by rw [hcl, hl2]; omega)⟩
      obtain ⟨u1, hu1⟩ : ∃ u, w1.cell? ⟨g, j * 2 + 1, none⟩ = some u := by
        rw [hown1.cellAt (j * 2 + 1) (by omega)]
        exact ⟨_, List.getElem?_eq_getElem (by rw [hcl, hl2]; omega)⟩
      have hf0 := hown1.frozenAt (j * 2)
      have hf1 := hown1.frozenAt (j * 2 + 1)
      obtain ⟨hst, hgs⟩ := hown1.stored (j * 2) (.string s)
      rw [show j * 2 = j * 2 + 0 from rfl, ← cellsOf_set (y' := (s, y.2)) plCells_len hy (by omega) rfl, Nat.add_zero] at hst
      obtain ⟨hst2, hgs2⟩ := hst.stored (j * 2 + 1) (.int .i64 ((K + 1 : Nat) : Int))
      rw [← cellsOf_set (y := (s, y.2)) (y' := (s, ((K + 1 : Nat) : Int))) plCells_len (by rw [List.getElem?_set_self (by omega)]) (by omega) rfl, List.set_set] at hst2
      have hGn := gb_trans (gb_trans (gb_trans hG (gb_mono hg1 _)) hgs) hgs2
      have Hst := Lib.hid hst2
      have HGn := Lib.hid hGn
      clear hst hst2 hgs hgs2 hGn hcl hl2 hown hown1 hG hg1
      have Hy := Lib.hid hy
      clear hy
      go_wp2
      go_roundw
      case rel => exact ⟨j + 1, ys.set j (s, ((K + 1 : Nat) : Int)), by omega, by go_num, by rw [show k + 2 * (j + 1) = K + 1 + 1 from by rw [← HK.out]; omega]; go_num, Hst.out, HGn.out, Lib.hid (by rw [List.length_set]; exact hyl.out), Lib.hid (fun i hi => by
        by_cases hij : i = j
        · subst hij
          rw [List.getElem?_set_self (by rw [hyl.out]; exact hlt), markPl_at hlt, HK.out, Hs.out]
        · rw [List.getElem?_set_ne (fun e => hij e.symm)]
          exact hpre.out i (by omega))⟩
      case measure => simp [intOf]; omega
    · obtain rfl : j = n := by omega
      have hfin : ys = markPl k j := by
        apply List.ext_getElem?
        intro i
        by_cases hi : i < j
        · exact hpre.out i hi
        · rw [List.getElem?_eq_none (by rw [hyl.out]; omega), List.getElem?_eq_none (by rw [markPl_len]; omega)]
      subst hfin
      go_wp2
      go_ret
      exact ⟨rfl, hG, hown⟩

attribute [local go_sem] flowAct flowOp_def flowUpon
set_option maxHeartbeats 1000000 in
theorem c_heldPileS (lo : Nat) (A : Option Addr) (n c k : Nat) (w : World) (h : Piles w lo A n c (markPl k n)) (hk : 1 ≤ k) (hb : k + 2 * n ≤ 10000000000000) :
    Calls Try.prog 39 #[.slice A n c, .int .i64 (k : Int)] w fun e w' => e = .returned (.int .i64 ((k + 2 * n : Nat) : Int)) ∧ w.grownBy w' none := by
  have hlc := h.1
  have hcm := Sl.max h
  go_enter Try.func39, Try.ntmps39
  go_wp2
  go_loopw [1, 5] (fun a i wr => ∃ (j : Nat), j ≤ n ∧ i = .int .i64 (j : Int) ∧ a = .int .i64 ((k + 2 * j : Nat) : Int) ∧ w.grownBy wr none) (fun _ i _ => n - (intOf i).toNat)
  case atStart => exact ⟨0, Nat.zero_le _, rfl, rfl, gb_refl _ _⟩
  case round =>
    obtain ⟨j, hj, rfl, rfl, hG⟩ := hrel
    by_cases hlt : j < n
    · obtain ⟨b, off, ⟨s, m⟩, rfl, _, _, hp, m0, m1⟩ := Piles.at_ (Piles.keep0 h hG) hlt
      have hpe := hp.out
      rw [markPl_at hlt] at hpe
      injection hpe with hpe
      injection hpe with hpe1 hpe2
      obtain ⟨K, hK⟩ : ∃ K : Nat, k + 2 * j = K := ⟨_, rfl⟩
      have HK := Lib.hid hK
      have hK1 : 1 ≤ K := by omega
      have hK2 : K + 2 ≤ 10000000000000 := by omega
      rw [hK] at hpe1 hpe2
      rw [hK]
      have Hs := Lib.hid hpe1
      rw [← hpe2] at m1
      clear hK hpe1 hpe2 hp
      have hss : (s.toList != s.toList) = false := by simp
      have hkk : (((K + 1 : Nat) : Int) != ((K + 1 : Nat) : Int)) = false := by simp
      have hj' : (j : Int) < (n : Int) := by omega
      have hj0 : (0 : Int) ≤ (j : Int) := by omega
      go_wp2_with fail
      refine wp_known wr [.slice (some ⟨b, off, none⟩) n c, .int .i64 j, .pointer (some ⟨b, off + j * 2, none⟩), .pointer (some ⟨b, off + j * 2, none⟩), .string s, .int .i64 K, .string s, .bool false] (gb_refl _ _) (by kernel_rfl) (by kernel_rfl) ?_ ?_
      · refine ⟨?_, ?_, ?_, ?_, ?_, ?_, ?_, ?_, trivial⟩
        all_goals
          intro n u x hn hC hp
          simp [flowPreds, Region.binds, fKnown] at hp
          have n0 := gb_cell hC m0 (by simp)
          go_simp
        all_goals try exact ⟨gb_refl _ _, rfl⟩
        · refine (c_markT K _ hK1 (by omega)).mono ?_
          rintro e y ⟨rfl, hg⟩
          exact ⟨_, rfl, hg, by rw [Hs.out]; rfl⟩
      · intro u x hC hp'
        have e1 : u 7 = .bool false := hp' 7 (by decide)
        have m1' := gb_cell hC m1 (by simp)
        go_simp
        go_wp2
        go_roundw
        case rel => exact ⟨j + 1, by omega, by go_num, by rw [show k + 2 * (j + 1) = K + 1 + 1 from by rw [← HK.out]; omega]; go_num, gb_trans hG hC⟩
        case measure => simp [intOf]; omega
    · obtain rfl : j = n := by omega
      go_wp2
      go_ret
      exact ⟨rfl, hG⟩
end Go.Proofs.Ytdhkhlemdlibfaa
