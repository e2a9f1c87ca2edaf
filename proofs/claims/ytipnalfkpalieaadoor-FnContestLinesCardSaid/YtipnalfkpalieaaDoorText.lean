/-
  BallotText of the reference; a word drawn out of a list.
-/
import Derived.Test.YtipnalfkpalieaaDoorParse
import Derived.Test.YtipnalfkpalieaaDoorRdr
import Derived.Test.YtipnalfkpalieaaDoorFlowTail
namespace Go.Proofs.YtipnalfkpalieaaDoor
open Go.RowKit
set_option linter.unusedVariables false

theorem Strs.cellKeep {w w' : World} {lo n cap R : Nat} {A : Option Addr} {xs : List ByteArray} (h : Strs w lo A n cap xs) (hg : w.grownBy w' (some R)) (hR : R < lo) : Strs w' lo A n cap xs :=
  Sl.keep h hg (fun k e => by injection e with e; omega)
theorem Ints.cellKeep {w w' : World} {lo n cap R : Nat} {A : Option Addr} {xs : List Int} (h : Ints w lo A n cap xs) (hg : w.grownBy w' (some R)) (hR : R < lo) : Ints w' lo A n cap xs :=
  Sl.keep h hg (fun k e => by injection e with e; omega)

theorem c_of (R m lo : Nat) (A : Option Addr) (n cap : Nat) (ss : List ByteArray) (w : World) (h : Rdr w R m) (hm : m ≤ 1000000) (hs : Strs w lo A n cap ss) (hlo : R < lo) (hn : 1 ≤ n) (hn' : n ≤ 1000000) :
    Calls Tryd.prog 94 #[.pointer (some ⟨R, 0, none⟩), .slice A n cap] w fun e w' =>
      ∃ s, s ∈ ss ∧ e = .returned (.string s) ∧ Rdr w' R (m + 1) ∧ w.grownBy w' (some R) ∧ w'.heap.size = w.heap.size := by
  go_enter Tryd.func94, Tryd.ntmps94
  go_wp2_with fail
  refine (c_pick _ _ _ _ h hm (by omega) (by omega)).mono ?_
  rintro e w1 ⟨k, hk, rfl, hR1, hg1, hz1⟩
  obtain ⟨b, off, z, rfl, hz, hcell⟩ := (hs.cellKeep hg1 hlo).at_ (k := k) (by omega)
  have Hz := Lib.hid hz1
  clear hz1
  go_wp2
  go_ret
  exact ⟨z, List.mem_of_getElem? hz.out, rfl, hR1, hg1, Hz.out⟩

def letters (xs : List Int) : List UInt8 := xs.map fun z => (97 + z).toNat.toUInt8
def ballotText (xs : List Int) : ByteArray := if ballotOK xs 5 then ⟨(letters xs).toArray⟩ else ⟨#[]⟩
theorem ballotText_size (xs : List Int) (h : xs.length ≤ 10) : (ballotText xs).size ≤ 100 := by
  unfold ballotText
  split
  · simp [letters, ByteArray.size]; omega
  · exact Nat.zero_le _
theorem letter_cut (z : Int) (h0 : 0 ≤ z) (h4 : z ≤ 4) : (⟨#[97, 98, 99, 100, 101]⟩ : ByteArray).extract z.toNat (z + 1).toNat = ⟨#[(97 + z).toNat.toUInt8]⟩ := by
  obtain ⟨k, rfl⟩ := Int.eq_ofNat_of_zero_le h0
  have hk : k ≤ 4 := by omega
  match k, hk with
  | 0, _ => rfl
  | 1, _ => rfl
  | 2, _ => rfl
  | 3, _ => rfl
  | 4, _ => rfl

set_option maxHeartbeats 400000 in
theorem c_spec_BallotText (lo : Nat) (A : Option Addr) (n cap : Nat) (xs : List Int) (w : World) (h : Ints w lo A n cap xs) (hn : n ≤ 1000000) :
    Calls Tryd.prog 21 #[.slice A n cap] w fun e w' => e = .returned (.string (ballotText xs)) ∧ ∃ d, w' = w.drewN d := by
  have hlc := h.le
  have hcm := h.max
  have hxl := Lib.hid h.len
  by_cases hok : ballotOK xs 5 = true
  · have hall := Lib.hid ((ballotOK_iff xs 5).1 hok).2.2
    have Hok := Lib.hid hok
    go_enter Tryd.func21, Tryd.ntmps21
    go_wp2
    go_loopw [3, 4] (fun v i wr => ∃ (k d : Nat) (t : ByteArray), k ≤ n ∧ i = .int .i64 k ∧ wr = w.drewN d ∧ v = .string t ∧ t.size ≤ 1000000 ∧ Hid (t = ⟨(letters (xs.take k)).toArray⟩)) (fun _ i _ => n - (intOf i).toNat)
    case atStart => exact ⟨0, 0, _, Nat.zero_le _, rfl, rfl, rfl, Nat.zero_le _, Lib.hid rfl⟩
    case round =>
      obtain ⟨k, d, t, hk, rfl, rfl, rfl, hts, ht⟩ := hrel
      by_cases hlt : k < n
      · obtain ⟨b, off, z, rfl, hz, hcell⟩ := h.at_ hlt
        have hb := hall.out z (List.mem_of_getElem? hz.out)
        obtain ⟨h0, h5⟩ := hb
        have hk' : (k : Int) < (n : Int) := by omega
        have w1 : IntKind.i64.wrap (z + 1) = z + 1 := IntWalk.i64_in _ (by omega)
        have w2 : 0 ≤ z + 1 := by omega
        have w3 : z ≤ 5 := by omega
        have w4 : z + 1 ≤ 5 := by omega
        have w5 : z ≤ z + 1 := by omega
        have hcut := letter_cut z h0 (by omega)
        have hadd : ∀ wx : World, (Op.stringOp .add t ⟨#[(97 + z).toNat.toUInt8]⟩).run Tryd.prog wx = .ok (.string (t ++ ⟨#[(97 + z).toNat.toUInt8]⟩)) wx := fun wx => run_string_add wx _ _ (by omega) (by show ((1 : Nat) : Int) ≤ 8388608; omega)
        have ht' : Hid (t ++ ⟨#[(97 + z).toNat.toUInt8]⟩ = ⟨(letters (xs.take (k + 1))).toArray⟩) := Lib.hid (by
          rw [ht.out, take_succ_of hz.out, letters, letters, List.map_append]
          exact ByteArray.mk_append_mk _ [(97 + z).toNat.toUInt8])
        have hsz : (t ++ ⟨#[(97 + z).toNat.toUInt8]⟩ : ByteArray).size ≤ 1000000 := by
          rw [ht'.out]
          simp [letters, ByteArray.size]
          omega
        have Hsz := Lib.hid hsz
        clear hsz
        go_wp2_with (go_at_call 45; refine (c_spec_BallotValid lo _ n cap xs _ _ (Sl.drewN h _)).mono ?_; rintro e w' ⟨rfl, d2, rfl⟩)
        go_quiet (fail)
        clear hadd hcut w1
        go_wp2
        go_roundw
        case rel => exact ⟨k + 1, _, _, by omega, by go_num, rfl, rfl, Hsz.out, ht'⟩
        case measure => simp [intOf]; omega
      · obtain rfl : k = n := by omega
        go_wp2_with (go_at_call 45; refine (c_spec_BallotValid lo _ k cap xs _ _ (Sl.drewN h _)).mono ?_; rintro e w' ⟨rfl, d2, rfl⟩)
        go_ret
        exact ⟨ret_str (by rw [ht.out, List.take_of_length_le (by rw [hxl.out]; exact Nat.le_refl _), ballotText, Hok.out]; rfl), _, rfl⟩
  · have hok' : ballotOK xs 5 = false := by simpa using hok
    clear hok
    have Hok := Lib.hid hok'
    by_cases h0 : 0 < n
    · go_enter Tryd.func21, Tryd.ntmps21
      go_wp2
      refine wp_loop_rounds 1 ?_
      rw [rounds_succ]
      go_wp2_with (go_at_call 45; refine (c_spec_BallotValid lo _ n cap xs _ _ h).mono ?_; rintro e w' ⟨rfl, d2, rfl⟩)
      go_ret
      exact ⟨ret_str (by rw [ballotText, Hok.out]; rfl), _, rfl⟩
    · obtain rfl : n = 0 := by omega
      go_enter Tryd.func21, Tryd.ntmps21
      go_wp2
      refine wp_loop_rounds 1 ?_
      rw [rounds_succ]
      go_wp2
      go_ret
      exact ⟨ret_str (by rw [ballotText, Hok.out]; rfl), 0, rfl⟩
end Go.Proofs.YtipnalfkpalieaaDoor
