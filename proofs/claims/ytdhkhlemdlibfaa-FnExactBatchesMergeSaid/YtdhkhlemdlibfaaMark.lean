/-
  How the laws mark memory and see whether it is still marked.
-/
import Derived.Test.YtdhkhlemdlibfaaTo
import Derived.Laws.IdiomStrings
namespace Go.Proofs.Ytdhkhlemdlibfaa
open Go.RowKit
set_option linter.unusedVariables false

theorem own_addr0 {w : World} {lo e size n c : Nat} {A : Option Addr} {xs : List Value} (h : w.ownsRow lo e size (.slice A n c) n xs) (hn : 0 < n) : ∃ g, A = some ⟨g, 0, none⟩ ∧ lo ≤ g ∧ g < w.heap.size := by
  rcases h.2 with ⟨h1, h2⟩ | ⟨g, cap, cur, h1, hg, hh, _⟩
  · omega
  · injection h1 with h1
    exact ⟨g, h1, hg, Blk.lt hh⟩

set_option maxHeartbeats 400000 in
theorem c_markText (k : Nat) (w : World) (hk : k ≤ 2000000) :
    Calls Try.prog 54 #[.int .i64 (k : Int)] w fun e w' => ∃ s, e = .returned (.string s) ∧ w.grownBy w' none := by
  by_cases h0 : k = 0
  · subst h0
    go_enter Try.func54, Try.ntmps54
    go_wp2
    go_ret
    exact ⟨_, rfl, gb_refl _ _⟩
  · have hk1 : 1 ≤ k := by omega
    go_enter Try.func54, Try.ntmps54
    go_wp2
    go_loopw [0, 3] (fun a v wr => ∃ (j : Nat) (t : ByteArray), a = .int .i64 (j : Int) ∧ v = .string t ∧ t.size + j ≤ 2000000 ∧ w.grownBy wr none) (fun a _ _ => (intOf a).toNat)
    case atStart => exact ⟨k, _, rfl, rfl, by show 0 + k ≤ 2000000; omega, gb_refl _ _⟩
    case round =>
      obtain ⟨j, t, rfl, rfl, hsz, hG⟩ := hrel
      by_cases hj : 0 < j
      · have hadd : ∀ (u : UInt8) (wx : World), (Op.stringOp .add ⟨#[u]⟩ t).run Try.prog wx = .ok (.string (⟨#[u]⟩ ++ t)) wx := fun u wx => run_string_add wx _ _ (by show ((1 : Nat) : Int) ≤ 8388608; omega) (by omega)
        obtain ⟨u, hu⟩ : ∃ u : UInt8, (48 : Int) + (j : Int) % 10 = (u.toNat : Int) := ⟨(48 + j % 10).toUInt8, by
          have : (48 + j % 10).toUInt8.toNat = 48 + j % 10 := by
            rw [Nat.toUInt8, UInt8.toNat_ofNat']
            omega
          rw [this]
          omega⟩
        have hconv : ∀ wx : World, (convert 22 9 (.slice (some ⟨wx.heap.size, 0, none⟩) 1 1)).run Try.prog (wx.alloc (.cells #[.int .u8 (u.toNat : Int)] 5)) = .ok (.string ⟨#[u]⟩) (wx.alloc (.cells #[.int .u8 (u.toNat : Int)] 5)) := by
          intro wx
          refine run_convert_bytes_back _ _ _ _ _ 1 [u] Try.underlying22 Try.underlying5 Try.underlying9 ?_
          intro k hk
          have hk : k = 0 := by simpa using hk
          subst hk
          exact World.cell?_alloc_new wx _ _ 0
        have hadd := hadd u
        have hu8 : u.toNat < 256 := UInt8.toNat_lt u
        go_wp2
        go_roundw
        case rel => exact ⟨j / 10, ⟨#[u]⟩ ++ t, by go_num, rfl, by
          have : (⟨#[u]⟩ ++ t : ByteArray).size = 1 + t.size := by rw [ByteArray.size_append]; rfl
          omega, gb_alloc hG _⟩
        case measure => simp [intOf]; omega
      · have hadd : ∀ (wx : World), (Op.stringOp .add ⟨#[109]⟩ t).run Try.prog wx = .ok (.string (⟨#[109]⟩ ++ t)) wx := fun wx => run_string_add wx _ _ (by show ((1 : Nat) : Int) ≤ 8388608; omega) (by omega)
        obtain rfl : j = 0 := by omega
        go_wp2
        go_ret
        exact ⟨_, rfl, hG⟩


/-- The marks from 1 on. -/
def marks (n : Nat) : List Int := (List.range n).map fun (i : Nat) => ((i + 1 : Nat) : Int)
theorem marks_at {n k : Nat} (h : k < n) : (marks n)[k]? = some ((k + 1 : Nat) : Int) := by
  unfold marks
  rw [List.getElem?_map, List.getElem?_range h]
  rfl
theorem marks_len (n : Nat) : (marks n).length = n := by simp [marks]


end Go.Proofs.Ytdhkhlemdlibfaa
