/-
  A text's complete lines, an output's last line: of the laws.
-/
import Derived.Test.YtboobimpoddacaaGreatDoorPackC
namespace Go.Proofs.YtboobimpoddacaaGreatDoor
open Go.RowKit
set_option linter.unusedVariables false

theorem app_right {x b T : ByteArray} {J : Nat} (hT : x ++ b = T) (hJ : J < T.size) (h : x.size ≤ J) : b.data.toList[J - x.size]? = some T[J] := by
  subst hT
  have h1 := ba_at hJ
  have hl : x.data.toList.length = x.size := Array.length_toList
  rw [ByteArray.data_append, Array.toList_append, List.getElem?_append_right (by omega), hl] at h1
  exact h1
theorem app_left {x b T : ByteArray} {J : Nat} (hT : x ++ b = T) (hJ : J < T.size) (h : J < x.size) : x.data.toList[J]? = some T[J] := by
  subst hT
  have h1 := ba_at hJ
  have hl : x.data.toList.length = x.size := Array.length_toList
  rw [ByteArray.data_append, Array.toList_append, List.getElem?_append_left (by omega)] at h1
  exact h1
/-- The byte ahead of the rest ends a line. -/
theorem whole_last {x b T : ByteArray} {J : Nat} (hT : x ++ b = T) (hx : Whole x) (hJ : J < T.size) (h : J + 1 = x.size) : T[J] = 10 := by
  have h1 := app_left hT hJ (by omega)
  rcases hx with rfl | ⟨u, rfl⟩
  · have : (⟨#[]⟩ : ByteArray).size = 0 := rfl
    omega
  · have hl : u.data.toList.length = u.size := Array.length_toList
    have hz : (u ++ tNl).size = u.size + 1 := by rw [ByteArray.size_append]; rfl
    rw [nl_data, List.getElem?_append_right (by omega), hl, show J - u.size = 0 by omega] at h1
    exact (Option.some.inj h1).symm
theorem rest_not {x b T : ByteArray} {J : Nat} (hT : x ++ b = T) (hb : (10 : UInt8) ∉ b.data.toList) (hJ : J < T.size) (h : x.size ≤ J) : T[J] ≠ 10 := fun e => by
  have h1 := app_right hT hJ h
  rw [e] at h1
  exact hb (List.mem_of_getElem? h1)
theorem cut_head {x b T : ByteArray} (hT : x ++ b = T) : T.extract 0 x.size = x := by
  subst hT
  refine ba_inj ?_
  have hl : x.data.toList.length = x.size := Array.length_toList
  rw [ext_list, List.drop_zero, Nat.sub_zero, ByteArray.data_append, Array.toList_append, List.take_append_of_le_length (by omega), List.take_of_length_le (by omega)]
theorem cut_tail {x b T : ByteArray} (hT : x ++ b = T) : T.extract x.size T.size = b := by
  subst hT
  refine ba_inj ?_
  have hl : x.data.toList.length = x.size := Array.length_toList
  have hl2 : b.data.toList.length = b.size := Array.length_toList
  rw [ext_list, ByteArray.data_append, Array.toList_append, ← hl, List.drop_left, List.take_of_length_le]
  rw [ByteArray.size_append]
  omega

set_option maxHeartbeats 400000 in
theorem c_completeLines (x b T : ByteArray) (w : World) (hT : x ++ b = T) (hx : Whole x) (hb : (10 : UInt8) ∉ b.data.toList) (hs : T.size ≤ 2000000) :
    Calls Tryz.prog 15 #[.string T] w fun e w' => e = .returned (.string x) ∧ w = w' := by
  have hxT : x.size ≤ T.size := by rw [← hT, ByteArray.size_append]; omega
  have HL := Lib.hid (fun J hJ h => whole_last (J := J) hT hx hJ h)
  have HR := Lib.hid (fun J hJ h => rest_not (J := J) hT hb hJ h)
  have HC := Lib.hid (cut_head hT)
  have H0 : Hid (x.size = 0 → x = ⟨#[]⟩) := Lib.hid (fun h => ba_inj (List.eq_nil_of_length_eq_zero (by rw [Array.length_toList]; exact h)))
  clear hT hx hb
  go_enter Tryz.func15, Tryz.ntmps15
  go_wp2
  go_loop [3] (fun i => ∃ k : Nat, i = .int .i64 (k : Int) ∧ x.size ≤ k ∧ k ≤ T.size) (fun i => (intOf i).toNat)
  case atStart => exact ⟨T.size, rfl, hxT, Nat.le_refl _⟩
  case round =>
    obtain ⟨k, rfl, hk1, hk2⟩ := hrel
    rcases Nat.eq_zero_or_pos k with h0 | h0
    · subst h0
      have hr := Lib.hid (H0.out (by omega))
      go_wp2
      go_ret
      exact ⟨ret_str hr.out.symm, rfl⟩
    · obtain ⟨J, rfl⟩ : ∃ J, k = J + 1 := ⟨k - 1, by omega⟩
      obtain ⟨K, hK⟩ : ∃ K : Nat, J + 1 = K := ⟨_, rfl⟩
      have hJ : J < T.size := by omega
      have hpos : (0 : Int) < (K : Int) := by omega
      have w1 : IntKind.i64.wrap ((K : Int) - 1) = (J : Int) := by rw [IntWalk.i64_in _ (by omega)]; omega
      have hJ0 : (0 : Int) ≤ (J : Int) := by omega
      have hJ1 : (J : Int) < (T.size : Int) := by omega
      have hK0 : (0 : Int) ≤ (K : Int) := by omega
      have hK1 : (K : Int) ≤ (T.size : Int) := by omega
      have hKT : K ≤ T.size := by omega
      rw [hK]
      by_cases he : K = x.size
      · have hq : T[J] = 10 := HL.out J hJ (by omega)
        have hq' : (T[J].toNat : Int) = 10 := by rw [hq]; rfl
        have hcut : Hid (T.extract 0 K = x) := Lib.hid (by rw [he]; exact HC.out)
        clear hq hK he
        go_wp2
        go_ret
        exact ⟨ret_str hcut.out, rfl⟩
      · have hq : T[J] ≠ 10 := HR.out J hJ (by omega)
        have hq' : ¬ (T[J].toNat : Int) = 10 := fun e => hq (UInt8.toNat_inj.1 (by have : (10 : UInt8).toNat = 10 := rfl; omega))
        have hxJ : x.size ≤ J := by omega
        have hm : J < K := by omega
        clear hq hK he hk1 hk2 h0
        go_wp2
        go_round
        case rel => exact ⟨J, by simp, hxJ, by omega⟩
        case measure => simp [intOf]; omega

set_option maxHeartbeats 400000 in
theorem c_lastLine (o tl u T : ByteArray) (w : World) (hT : o ++ tl = T) (ho : Whole o) (htl : tl = u ++ tNl) (hu : (10 : UInt8) ∉ u.data.toList) (hs : T.size ≤ 4000000) :
    Calls Tryz.prog 16 #[.string T] w fun e w' => e = .returned (.string tl) ∧ w = w' := by
  have hts : tl.size = u.size + 1 := by rw [htl, ByteArray.size_append]; rfl
  have hTs : T.size = o.size + tl.size := by rw [← hT, ByteArray.size_append]
  have hT2 : (o ++ u) ++ tNl = T := by rw [ByteArray.append_assoc, ← htl, hT]
  have hou : (o ++ u).size = o.size + u.size := ByteArray.size_append
  have HL := Lib.hid (fun J hJ h => whole_last (J := J) hT ho hJ h)
  have HR : Hid (∀ J (hJ : J < T.size), o.size ≤ J → J + 1 < T.size → T[J] ≠ 10) := Lib.hid (fun J hJ h h' e => by
    have h1 := app_left hT2 hJ (by omega)
    have hl : o.data.toList.length = o.size := Array.length_toList
    rw [ByteArray.data_append, Array.toList_append, List.getElem?_append_right (by omega), e] at h1
    exact hu (List.mem_of_getElem? h1))
  have HC := Lib.hid (cut_tail hT)
  have H0 : Hid (o.size = 0 → T = tl) := Lib.hid (fun h => by
    have : o = ⟨#[]⟩ := ba_inj (List.eq_nil_of_length_eq_zero (by rw [Array.length_toList]; exact h))
    rw [← hT, this]
    exact ByteArray.empty_append)
  have w0 : IntKind.i64.wrap ((T.size : Int) - 2) = ((T.size - 1 : Nat) : Int) - 1 := by rw [IntWalk.i64_in _ (by omega)]; omega
  have hT1 : 1 ≤ T.size := by omega
  have hoT : o.size ≤ T.size - 1 := by omega
  clear hT ho htl hu hT2 hou hts hTs
  obtain ⟨Z, hZ⟩ : ∃ Z, T.size - 1 = Z := ⟨_, rfl⟩
  rw [hZ] at w0 hoT
  have hZT : Z + 1 = T.size := by omega
  have HZT := Lib.hid hZT
  clear hZ hZT
  go_enter Tryz.func16, Tryz.ntmps16
  go_wp2
  go_loop [3] (fun i => ∃ k : Nat, i = .int .i64 ((k : Int) - 1) ∧ o.size ≤ k ∧ k ≤ Z) (fun i => (intOf i + 1).toNat)
  case atStart => exact ⟨Z, rfl, hoT, Nat.le_refl _⟩
  case round =>
    obtain ⟨k, rfl, hk1, hk2⟩ := hrel
    rcases Nat.eq_zero_or_pos k with h0 | h0
    · subst h0
      have hr := Lib.hid (H0.out (by omega))
      have e0 : ((0 : Nat) : Int) - 1 = -1 := rfl
      rw [e0]
      go_wp2
      go_ret
      exact ⟨ret_str hr.out, rfl⟩
    · obtain ⟨J, rfl⟩ : ∃ J, k = J + 1 := ⟨k - 1, by omega⟩
      have hJT : J + 1 < T.size := by have := HZT.out; omega
      have hJ : J < T.size := by omega
      have e0 : ((J + 1 : Nat) : Int) - 1 = (J : Int) := by omega
      have hJ0 : (0 : Int) ≤ (J : Int) := by omega
      have hJ1 : (J : Int) < (T.size : Int) := by omega
      have hJ2 : ((J : Int) + 1) ≤ (T.size : Int) := by omega
      have hJ3 : (0 : Int) ≤ (J : Int) + 1 := by omega
      have w1 : IntKind.i64.wrap ((J : Int) + 1) = (J : Int) + 1 := IntWalk.i64_in _ (by omega)
      have w2 : IntKind.i64.wrap ((J : Int) - 1) = (J : Int) - 1 := IntWalk.i64_in _ (by omega)
      rw [e0]
      by_cases he : J + 1 = o.size
      · have hq : T[J] = 10 := HL.out J hJ he
        have hq' : (T[J].toNat : Int) = 10 := by rw [hq]; rfl
        have hcut : Hid (T.extract (J + 1) T.size = tl) := Lib.hid (by rw [he]; exact HC.out)
        clear hq he e0
        go_wp2
        go_ret
        exact ⟨ret_str hcut.out, rfl⟩
      · have hq : T[J] ≠ 10 := HR.out J hJ (by omega) hJT
        have hq' : ¬ (T[J].toNat : Int) = 10 := fun e => hq (UInt8.toNat_inj.1 (by have : (10 : UInt8).toNat = 10 := rfl; omega))
        have hxJ : o.size ≤ J := by omega
        clear hq he e0
        go_wp2
        go_round
        case rel => exact ⟨J, by simp, hxJ, by omega⟩
        case measure => simp [intOf]
end Go.Proofs.YtboobimpoddacaaGreatDoor
