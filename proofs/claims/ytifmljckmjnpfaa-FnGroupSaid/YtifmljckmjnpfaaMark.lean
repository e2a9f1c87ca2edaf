/-
  How the laws mark memory and see whether it is still marked.
-/
import Derived.Test.YtifmljckmjnpfaaTo
import Derived.Laws.IdiomStrings
namespace Go.Proofs.Ytifmljckmjnpfaa
open Go.RowKit
set_option linter.unusedVariables false

theorem own_addr0 {w : World} {lo e size n c : Nat} {A : Option Addr} {xs : List Value} (h : w.ownsRow lo e size (.slice A n c) n xs) (hn : 0 < n) : ∃ g, A = some ⟨g, 0, none⟩ ∧ lo ≤ g ∧ g < w.heap.size := by
  rcases h.2 with ⟨h1, h2⟩ | ⟨g, cap, cur, h1, hg, hh, _⟩
  · omega
  · injection h1 with h1
    exact ⟨g, h1, hg, Blk.lt hh⟩

set_option maxHeartbeats 400000 in
theorem c_markText (k : Nat) (w : World) (hk : k ≤ 2000000) :
    Calls Try.prog 62 #[.int .i64 (k : Int)] w fun e w' => ∃ s, e = .returned (.string s) ∧ w.grownBy w' none := by
  by_cases h0 : k = 0
  · subst h0
    go_enter Try.func62, Try.ntmps62
    go_wp2
    go_ret
    exact ⟨_, rfl, gb_refl _ _⟩
  · have hk1 : 1 ≤ k := by omega
    go_enter Try.func62, Try.ntmps62
    go_wp2
    go_loopw [0, 3] (fun a v wr => ∃ (j : Nat) (t : ByteArray), a = .int .i64 (j : Int) ∧ v = .string t ∧ t.size + j ≤ 2000000 ∧ w.grownBy wr none) (fun a _ _ => (intOf a).toNat)
    case atStart => exact ⟨k, _, rfl, rfl, by show 0 + k ≤ 2000000; omega, gb_refl _ _⟩
    case round =>
      obtain ⟨j, t, rfl, rfl, hsz, hG⟩ := hrel
      by_cases hj : 0 < j
      · have hadd : ∀ (u : UInt8) (wx : World), (Op.stringOp .add ⟨#[u]⟩ t).run Try.prog wx = .ok (.string (⟨#[u]⟩ ++ t)) wx := fun u wx => run_string_add wx _ _ (by show ((1 : Nat) : Int) ≤ 8388608; omega) (by omega)
        obtain ⟨u, hu⟩ : ∃ u : UInt8, (48 : Int) + (j : Int) % 10 = (u.toNat : Int) := ⟨(48 + j % 10).toUInt8, by
          have : (48 + j % 10).toUInt8.toNat = 48 + j % 10 := by
            rw [Nat.toUInt8, UInt8.toNat_ofNat']
            omega
          rw [this]
          omega⟩
        have hconv : ∀ wx : World, (convert 22 9 (.slice (some ⟨wx.heap.size, 0, none⟩) 1 1)).run Try.prog (wx.alloc (.cells #[.int .u8 (u.toNat : Int)] 5)) = .ok (.string ⟨#[u]⟩) (wx.alloc (.cells #[.int .u8 (u.toNat : Int)] 5)) := by
          intro wx
          refine run_convert_bytes_back _ _ _ _ _ 1 [u] Try.underlying22 Try.underlying5 Try.underlying9 ?_
          intro k hk
          have hk : k = 0 := by simpa using hk
          subst hk
          exact World.cell?_alloc_new wx _ _ 0
        have hadd := hadd u
        have hu8 : u.toNat < 256 := UInt8.toNat_lt u
        go_wp2
        go_roundw
        case rel => exact ⟨j / 10, ⟨#[u]⟩ ++ t, by go_num, rfl, by
          have : (⟨#[u]⟩ ++ t : ByteArray).size = 1 + t.size := by rw [ByteArray.size_append]; rfl
          omega, gb_alloc hG _⟩
        case measure => simp [intOf]; omega
      · have hadd : ∀ (wx : World), (Op.stringOp .add ⟨#[109]⟩ t).run Try.prog wx = .ok (.string (⟨#[109]⟩ ++ t)) wx := fun wx => run_string_add wx _ _ (by show ((1 : Nat) : Int) ≤ 8388608; omega) (by omega)
        obtain rfl : j = 0 := by omega
        go_wp2
        go_ret
        exact ⟨_, rfl, hG⟩


/-- The marks from 1 on. -/
def marks (n : Nat) : List Int := (List.range n).map fun (i : Nat) => ((i + 1 : Nat) : Int)
theorem marks_at {n k : Nat} (h : k < n) : (marks n)[k]? = some ((k + 1 : Nat) : Int) := by
  unfold marks
  rw [List.getElem?_map, List.getElem?_range h]
  rfl
theorem marks_len (n : Nat) : (marks n).length = n := by simp [marks]

set_option maxHeartbeats 400000 in
theorem c_markIntS (lo : Nat) (A : Option Addr) (n c : Nat) (xs : List Int) (w : World) (h : w.ownsRow lo 3 1 (.slice A n c) n (xs.map (Value.int .i64))) (hn : n ≤ 100000) :
    Calls Try.prog 56 #[.slice A n c, .int .i64 1] w fun e w' => e = .returned (.int .i64 ((n + 1 : Nat) : Int)) ∧ w.grownBy w' (Value.slice A n c).ownBlock ∧ w'.ownsRow lo 3 1 (.slice A n c) n ((marks n).map (Value.int .i64)) := by
  have hlc := (Sl.own h).le
  have hcm := (Sl.own h).max
  go_enter Try.func56, Try.ntmps56
  go_wp2
  go_loopw [1, 5] (fun a i wr => ∃ (k : Nat) (ys : List Int), k ≤ n ∧ i = .int .i64 (k : Int) ∧ a = .int .i64 ((k + 1 : Nat) : Int) ∧ wr.ownsRow lo 3 1 (.slice A n c) n (ys.map (Value.int .i64)) ∧ w.grownBy wr (Value.slice A n c).ownBlock ∧ Hid (∀ j, j < k → ys[j]? = some ((j + 1 : Nat) : Int))) (fun _ i _ => n - (intOf i).toNat)
  case atStart => exact ⟨0, xs, Nat.zero_le _, rfl, rfl, h, gb_refl _ _, Lib.hid (by omega)⟩
  case round =>
    obtain ⟨k, ys, hk, rfl, rfl, hown, hG, hpre⟩ := hrel
    have hyl : ys.length = n := by have := hown.1; simpa using this
    have Hyl := Lib.hid hyl
    clear hyl
    by_cases hlt : k < n
    · obtain ⟨g, rfl, hg0, hg1'⟩ := own_addr0 hown (by omega)
      obtain ⟨b, off, u, he, _, hcell⟩ := (Sl.own hown).at1 hlt
      injection he with he
      injection he with he1 he2
      subst he1 he2
      rw [Nat.zero_add] at hcell
      have hf := hown.frozenAt k
      obtain ⟨hst, hgs⟩ := hown.stored k (.int .i64 ((k + 1 : Nat) : Int))
      have hst' : (wr.setCell ⟨g, k, none⟩ (.int .i64 ((k + 1 : Nat) : Int))).ownsRow lo 3 1 (.slice (some ⟨g, 0, none⟩) n c) n ((ys.set k ((k + 1 : Nat) : Int)).map (Value.int .i64)) := by
        rw [List.map_set]; exact hst
      have hk' : (k : Int) < (n : Int) := by omega
      obtain ⟨K, hK⟩ : ∃ K : Nat, k + 1 = K := ⟨_, rfl⟩
      have HK := Lib.hid hK
      have hKb : K ≤ 100001 := by omega
      rw [hK] at hst hst' hgs
      rw [hK]
      clear hK hst
      go_wp2
      go_roundw
      case rel => exact ⟨k + 1, ys.set k (K : Int), by omega, by go_num, by rw [HK.out]; go_num, hst', gb_trans hG hgs, Lib.hid (fun j hj => by
        by_cases hjk : j = k
        · subst hjk
          rw [List.getElem?_set_self (by rw [Hyl.out]; exact hlt), HK.out]
        · rw [List.getElem?_set_ne (fun e => hjk e.symm)]
          exact hpre.out j (by omega))⟩
      case measure => simp [intOf]; omega
    · obtain rfl : k = n := by omega
      have hfin : ys = marks k := by
        apply List.ext_getElem?
        intro j
        by_cases hj : j < k
        · rw [hpre.out j hj, marks_at hj]
        · rw [List.getElem?_eq_none (by rw [Hyl.out]; omega), List.getElem?_eq_none (by rw [marks_len]; omega)]
      subst hfin
      go_wp2
      go_ret
      exact ⟨rfl, hG, hown⟩

set_option maxHeartbeats 400000 in
theorem c_heldIntS (lo : Nat) (A : Option Addr) (n c : Nat) (w : World) (h : Ints w lo A n c (marks n)) (hn : n ≤ 100000) :
    Calls Try.prog 57 #[.slice A n c, .int .i64 1] w fun e w' => e = .returned (.int .i64 ((n + 1 : Nat) : Int)) ∧ ∃ d, w' = w.drewN d := by
  have hlc := h.le
  have hcm := h.max
  go_enter Try.func57, Try.ntmps57
  go_wp2
  go_loopw [1, 5] (fun a i wr => ∃ (k d : Nat), k ≤ n ∧ i = .int .i64 (k : Int) ∧ a = .int .i64 ((k + 1 : Nat) : Int) ∧ wr = w.drewN d) (fun _ i _ => n - (intOf i).toNat)
  case atStart => exact ⟨0, 0, Nat.zero_le _, rfl, rfl, rfl⟩
  case round =>
    obtain ⟨k, d, hk, rfl, rfl, rfl⟩ := hrel
    by_cases hlt : k < n
    · obtain ⟨b, off, z, rfl, hz, hcell⟩ := h.at_ hlt
      obtain rfl : z = ((k + 1 : Nat) : Int) := by
        have := hz.out
        rw [marks_at hlt] at this
        injection this with this
        exact this.symm
      obtain ⟨K, hK⟩ : ∃ K : Nat, k + 1 = K := ⟨_, rfl⟩
      have HK := Lib.hid hK
      have hKb : K ≤ 100001 := by omega
      rw [hK] at hcell
      rw [hK]
      clear hK hz
      have hne : ((K : Int) != (K : Int)) = false := by simp
      have hk' : (k : Int) < (n : Int) := by omega
      go_wp2
      go_roundw
      case rel => exact ⟨k + 1, _, by omega, by go_num, by rw [HK.out]; go_num, rfl⟩
      case measure => simp [intOf]; omega
    · obtain rfl : k = n := by omega
      go_wp2
      go_ret
      exact ⟨rfl, d, rfl⟩
end Go.Proofs.Ytifmljckmjnpfaa
