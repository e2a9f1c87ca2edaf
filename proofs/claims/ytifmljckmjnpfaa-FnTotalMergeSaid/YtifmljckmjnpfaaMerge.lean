/-
  PilesMerge of the program.
-/
import Derived.Test.YtifmljckmjnpfaaPilesOf
namespace Go.Proofs.Ytifmljckmjnpfaa
open Go.RowKit
set_option linter.unusedVariables false

def mergeOK (xs ys : List Pl) : Bool := pilesOK xs && pilesOK ys && pilesOK (canon (xs ++ ys))
def mergeRes (xs ys : List Pl) : List Pl := if mergeOK xs ys then canon (xs ++ ys) else []

set_option maxHeartbeats 1000000 in
theorem c_impl_PilesMerge (lo lo' : Nat) (A B : Option Addr) (n cap m cap' : Nat) (xs ys : List Pl) (w : World) (h : Piles w lo A n cap xs) (h' : Piles w lo' B m cap' ys) (hs : ∀ p ∈ xs, p.1.size ≤ 2000000) (hs' : ∀ p ∈ ys, p.1.size ≤ 2000000) :
    Calls Try.prog 33 #[.slice A n cap, .slice B m cap'] w (PilesOkRes (mergeRes xs ys) (mergeOK xs ys) w) := by
  have Hs := Lib.hid hs
  have Hs' := Lib.hid hs'
  clear hs hs'
  obtain ⟨V1, hV1⟩ : ∃ V, pilesOK xs = V := ⟨_, rfl⟩
  have H1 := Lib.hid hV1
  obtain ⟨V2, hV2⟩ : ∃ V, pilesOK ys = V := ⟨_, rfl⟩
  have H2 := Lib.hid hV2
  clear hV1 hV2
  have hbad : Hid (V1 = false ∨ V2 = false → ∀ w' : World, w.grownBy w' none → PilesOkRes (mergeRes xs ys) (mergeOK xs ys) w (.returned (.tuple #[.slice none 0 0, .bool false])) w') := Lib.hid (fun hv w' hg => by
    have h0 : mergeOK xs ys = false := by
      unfold mergeOK
      rw [H1.out, H2.out]
      rcases hv with e | e
      · rw [e]; rfl
      · rw [e]; simp
    have h1 : mergeRes xs ys = [] := by unfold mergeRes; rw [h0]; rfl
    exact ⟨none, 0, by rw [h0, h1]; rfl, hg, by rw [h1]; exact own_nil _ _ _ _⟩)
  go_enter Try.func33, Try.ntmps33
  go_wp2_with fail
  refine (c_impl_PilesValid lo A n cap xs _ h Hs.out).mono ?_
  rintro e w1 ⟨rfl, hg1⟩
  rw [H1.out]
  cases V1 with
  | false =>
    go_wp2
    go_ret2
    exact hbad.out (.inl (by first | rfl | trivial)) _ hg1
  | true =>
    go_wp2_with fail
    refine (c_impl_PilesValid lo' B m cap' ys _ (h'.keep0 hg1) Hs'.out).mono ?_
    rintro e w2 ⟨rfl, hg2⟩
    rw [H2.out]
    have hG2 := gb_trans hg1 hg2
    cases V2 with
    | false =>
      go_wp2
      go_ret2
      exact hbad.out (.inr (by first | rfl | trivial)) _ hG2
    | true =>
      have s1 := (pilesOK_iff xs).1 H1.out
      have s2 := (pilesOK_iff ys).1 H2.out
      have hx : xs.length = n := h.len
      have hy : ys.length = m := h'.len
      have hBn := Blk.new w2 33 #[.slice A n cap, .slice B m cap']
      have hal := gb_alloc (gb_refl w2 none) (.cells #[.slice A n cap, .slice B m cap'] 33)
      have hown := own_of_blk (lo := 0) (size := 1) (n := 2) hBn rfl (by omega) (Nat.zero_le _)
      have hpl : Plss (w2.alloc (.cells #[.slice A n cap, .slice B m cap'] 33)) 0 (some ⟨w2.heap.size, 0, none⟩) 2 2 [xs, ys] := by
        refine ⟨[(A, cap), (B, cap')], rfl, ?_, fun k x d hk hd => ?_⟩
        · have := Sl.own hown
          rw [show cellsOf plsRec.cells ([xs, ys].zip [(A, cap), (B, cap')]) = [.slice A n cap, .slice B m cap'] from by rw [← hx, ← hy]; rfl]
          exact this
        · match k, hk, hd with
          | 0, hk, hd =>
            simp at hk hd
            subst hk hd
            show Piles _ 0 A xs.length cap xs
            rw [hx]
            exact ((h.keep0 hG2).keep0 hal).mono (Nat.zero_le _)
          | 1, hk, hd =>
            simp at hk hd
            subst hk hd
            show Piles _ 0 B ys.length cap' ys
            rw [hy]
            exact ((h'.keep0 hG2).keep0 hal).mono (Nat.zero_le _)
          | k + 2, hk, hd => simp at hk
      have hfl : ([xs, ys] : List (List Pl)).flatten = xs ++ ys := by simp
      have hcall := c_pilesOf 0 _ 2 2 [xs, ys] _ hpl (by
        rw [hfl]
        refine ⟨fun e he => ?_, by rw [List.length_append]; omega⟩
        rcases List.mem_append.1 he with he | he
        · have := plOK_many (s1.1 e he); omega
        · have := plOK_many (s2.1 e he); omega) (by rw [hfl, List.length_append]; omega) (by
        rw [hfl]
        intro p hp
        rcases List.mem_append.1 hp with hp | hp
        · exact Hs.out p hp
        · exact Hs'.out p hp)
      rw [hfl] at hcall
      have hsv : sumOK (xs ++ ys) = mergeOK xs ys := by unfold mergeOK; rw [H1.out, H2.out]; rfl
      have hsr : sumRes (xs ++ ys) = mergeRes xs ys := by rw [sumRes, mergeRes, hsv]
      rw [hsv, hsr] at hcall
      have Hcall := Lib.hid hcall
      have hG3 := gb_trans hG2 hal
      clear hcall hsv hsr hpl hfl hown hBn s1 s2 hx hy hal
      go_wp2_with fail
      refine Hcall.out.mono ?_
      rintro e w3 ⟨B3, c3, rfl, hg3, ho3⟩
      go_wp2
      go_ret2
      exact ⟨B3, c3, rfl, gb_trans hG3 hg3, own_lo ho3 hG3.size⟩
end Go.Proofs.Ytifmljckmjnpfaa
