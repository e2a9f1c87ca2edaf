/-
  PilesTotal of the program (without the merged piles).
-/
import Derived.Test.YtboobimpoddacaaGreatDoorPiles
namespace Go.Proofs.YtboobimpoddacaaGreatDoor
open Go.RowKit
set_option linter.unusedVariables false

/-! ### PilesTotal -/
def sumPl (ps : List Pl) : Int := (ps.map (·.2)).sum
def pTotal (ps : List Pl) : Int := if pilesOK ps then sumPl ps else -1
theorem sumPl_snoc (ps : List Pl) (p : Pl) : sumPl (ps ++ [p]) = sumPl ps + p.2 := by simp [sumPl]
theorem sumPl_bound {ps : List Pl} (h : ∀ p ∈ ps, plOK p = true) : 0 ≤ sumPl ps ∧ sumPl ps ≤ 99 * ps.length := by
  induction ps with
  | nil => simp [sumPl]
  | cons p ps ih =>
    have h1 := ih (fun x hx => h x (List.mem_cons_of_mem _ hx))
    have h2 := plOK_many (h p (by simp))
    have h3 : sumPl (p :: ps) = p.2 + sumPl ps := by simp [sumPl]
    rw [h3, List.length_cons]
    omega

set_option maxHeartbeats 1000000 in
theorem c_impl_PilesTotal (lo : Nat) (A : Option Addr) (n cap : Nat) (ps : List Pl) (w : World) (h : Piles w lo A n cap ps) (hs : ∀ p ∈ ps, p.1.size ≤ 2000000) :
    Calls Tryz.prog 25 #[.slice A n cap] w fun e w' => e = .returned (.int .i64 (pTotal ps)) ∧ w.grownBy w' none := by
  have hlc := h.1
  have hcm := Sl.max h
  have hxl := Lib.hid h.len
  have Hs := Lib.hid hs
  clear hs
  obtain ⟨V, hV⟩ : ∃ V, pilesOK ps = V := ⟨_, rfl⟩
  have HV := Lib.hid hV
  clear hV
  go_enter Tryz.func25, Tryz.ntmps25
  go_wp2_with fail
  refine (c_impl_PilesValid lo A n cap ps _ h Hs.out).mono ?_
  rintro e w1 ⟨rfl, hg1⟩
  rw [HV.out]
  cases V with
  | false =>
    go_wp2
    go_ret
    exact ⟨ret_int (by rw [pTotal, HV.out]; rfl), hg1⟩
  | true =>
    have hall := ((pilesOK_iff _).1 HV.out)
    have Hall := Lib.hid hall.1
    have hn12 : n ≤ 12 := by have := hall.2.2; rw [hxl.out] at this; exact this
    clear hall
    go_wp2
    go_loopw [3, 11] (fun v i wr => ∃ (k : Nat) (F : Int), k ≤ n ∧ i = .int .i64 k ∧ v = .int .i64 F ∧ 0 ≤ F ∧ F ≤ 99 * k ∧ Hid (F = sumPl (ps.take k)) ∧ w.grownBy wr none) (fun _ i _ => n - (intOf i).toNat)
    case atStart => exact ⟨0, 0, Nat.zero_le _, rfl, rfl, by omega, by omega, Lib.hid rfl, hg1⟩
    case round =>
      obtain ⟨k, F, hk, rfl, rfl, hF0, hF1, hF, hG⟩ := hrel
      by_cases hlt : k < n
      · obtain ⟨b, off, ⟨s, q⟩, rfl, _, _, hz, p0, p1⟩ := Piles.at_ (h.keep0 hG) hlt
        have hk' : (k : Int) < (n : Int) := by omega
        have hk0 : (0 : Int) ≤ (k : Int) := by omega
        have hq : 1 ≤ q ∧ q ≤ 99 := plOK_many (Hall.out _ (List.mem_of_getElem? hz.out))
        go_wp2
        go_roundw
        case rel => exact ⟨k + 1, F + q, by omega, by go_num, rfl, by omega, by omega, Lib.hid (by rw [take_succ_of hz.out, sumPl_snoc, hF.out]), gb_alloc hG _⟩
        case measure => simp [intOf]; omega
      · obtain rfl : k = n := by omega
        go_wp2
        go_ret
        exact ⟨ret_int (by rw [pTotal, HV.out, if_pos rfl, hF.out, List.take_of_length_le (by rw [hxl.out]; exact Nat.le_refl _)]), hG⟩
end Go.Proofs.YtboobimpoddacaaGreatDoor
