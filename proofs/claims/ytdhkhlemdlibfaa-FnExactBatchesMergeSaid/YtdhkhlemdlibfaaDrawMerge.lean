/-
  Two returns, drawn for the laws of the merge; what a merge keeps.
-/
import Derived.Test.YtdhkhlemdlibfaaMergeS
import Derived.Test.YtdhkhlemdlibfaaReturns
import Derived.Test.YtdhkhlemdlibfaaSameBats
namespace Go.Proofs.Ytdhkhlemdlibfaa
open Go.RowKit
set_option linter.unusedVariables false

def DrawResM (w : World) (e : Ending) (w' : World) : Prop :=
  ∃ A1 c1 b1 A2 c2 b2, e = .returned (.tuple #[.slice A1 b1.length c1, .slice A2 b2.length c2]) ∧ Bats w' w.heap.size A1 b1.length c1 b1 ∧ Bats w' w.heap.size A2 b2.length c2 b2 ∧ b1.length ≤ 9 ∧ b2.length ≤ 9 ∧ (∀ b ∈ b1, SmallPls b.2.2) ∧ (∀ b ∈ b2, SmallPls b.2.2) ∧ w.grownBy w' none
theorem c_DrawBatchesMerge (A : Option Addr) (len cap : Nat) (w : World) (h : CodeArg w A len cap) :
    Calls Try.prog 8 #[.slice A len cap] w (DrawResM w) := by
  go_enter Try.func8, Try.ntmps8
  go_wp2_with fail
  refine (c_l6Open A len cap w h).mono ?_
  rintro e w1 ⟨rfl, hR1, hg1, hz1⟩
  go_wp2_with fail
  refine (c_l93Returns _ _ _ hR1 (by omega)).mono ?_
  rintro e w2 ⟨A1, c1, b1, A2, c2, b2, rfl, hb1, hb2, hl1, hl2, hs1, hs2, hg2⟩
  have hG2 : w.grownBy w2 none := gb_step hg1 hg2 (fun g e => by injection e with e; right; omega)
  have hb1' := hb1.mono hg1.size
  have hb2' := hb2.mono hg1.size
  have Hs1 := Lib.hid hs1
  have Hs2 := Lib.hid hs2
  obtain ⟨N, hN⟩ : ∃ N, b1.length = N := ⟨_, rfl⟩
  have HN := Lib.hid hN
  obtain ⟨M, hM⟩ : ∃ M, b2.length = M := ⟨_, rfl⟩
  have HM := Lib.hid hM
  rw [hN] at hl1 hb1'
  rw [hM] at hl2 hb2'
  rw [hN, hM]
  clear hN hM hs1 hs2 hb1 hb2
  go_wp2
  go_ret2
  exact ⟨A1, c1, b1, A2, c2, b2, by rw [HN.out, HM.out]; rfl, by rw [HN.out]; exact hb1', by rw [HM.out]; exact hb2', by rw [HN.out]; exact hl1, by rw [HM.out]; exact hl2, Hs1.out, Hs2.out, hG2⟩

theorem bmRes_sub {a b : List Bt} {x : Bt} (h : x ∈ bmRes a b) : x ∈ a ∨ x ∈ b := by
  unfold bmRes at h
  split at h
  · exact mgB_sub h
  · cases h
theorem bmRes_size {a b : List Bt} (ha : ∀ x ∈ a, ∀ p ∈ x.2.2, p.1.size ≤ 2000000) (hb : ∀ x ∈ b, ∀ p ∈ x.2.2, p.1.size ≤ 2000000) : ∀ x ∈ bmRes a b, ∀ p ∈ x.2.2, p.1.size ≤ 2000000 := fun x hx => by
  rcases bmRes_sub hx with h | h
  · exact ha x h
  · exact hb x h
theorem bmRes_len (a b : List Bt) : (bmRes a b).length ≤ 8 := by
  unfold bmRes
  split
  · rename_i h
    exact ((bmOK_iff a b).1 h).2.2.2
  · simp
theorem bmRes_piles (a b : List Bt) : ∀ x ∈ bmRes a b, x.2.2.length ≤ 12 := by
  intro x hx
  unfold bmRes at hx
  split at hx
  · rename_i h
    have h1 := ((batchesOK_iff _).1 (bm_good h).2.1).1 x hx
    unfold btOK at h1
    simp only [Bool.and_eq_true] at h1
    exact ((pilesOK_iff _).1 h1.2).2.2
  · cases hx
theorem hasB_mem {l : List Bt} {x : Bt} (h : x ∈ l) : hasB l x.1 = true := by
  unfold hasB
  exact List.any_eq_true.2 ⟨x, h, by simp⟩
end Go.Proofs.Ytdhkhlemdlibfaa
