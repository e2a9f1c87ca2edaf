/-
  TreeCheck of the reference and of the program.
-/
import Derived.Test.YtocdgmmmegcnoaaLeaf
namespace Go.Proofs.Ytocdgmmmegcnoaa
open Go.RowKit
set_option linter.unusedVariables false

def otherOf (p : Nat) : Nat := if p % 2 = 0 then p + 1 else p - 1
/-- What a proof's sums lead to from a sum on; none: there are too few. -/
def checkGo (m p : Nat) (s : Int) (xs : List Int) : Option (Int × List Int) :=
  if m ≤ 1 then some (s, xs) else
  if otherOf p < m then
    match xs with
    | [] => none
    | x :: xs => checkGo ((m + 1) / 2) (p / 2) (if p % 2 = 0 then nodeSum s x else nodeSum x s) xs
  else checkGo ((m + 1) / 2) (p / 2) s xs
termination_by m
decreasing_by all_goals omega

def checkEnd (root : Int) : Option (Int × List Int) → Bool
  | none => false
  | some (s, xs) => decide (0 ≤ s) && (s == root) && xs.isEmpty
def treeCheck (root many place : Int) (t : ByteArray) (xs : List Int) : Bool :=
  if 1 ≤ many ∧ many ≤ 8 ∧ 0 ≤ place ∧ place < many then checkEnd root (checkGo many.toNat place.toNat (leafSum place t) xs) else false

theorem checkGo_end {m p : Nat} {s : Int} {xs : List Int} (h : m ≤ 1) : checkGo m p s xs = some (s, xs) := by rw [checkGo.eq_def, if_pos h]
theorem checkGo_skip {m p : Nat} {s : Int} {xs : List Int} (h : ¬ m ≤ 1) (ho : ¬ otherOf p < m) : checkGo m p s xs = checkGo ((m + 1) / 2) (p / 2) s xs := by
  rw [checkGo.eq_def, if_neg h, if_neg ho]
theorem checkGo_none {m p : Nat} {s : Int} (h : ¬ m ≤ 1) (ho : otherOf p < m) : checkGo m p s [] = none := by
  rw [checkGo.eq_def, if_neg h, if_pos ho]
theorem checkGo_cons {m p : Nat} {s x : Int} {xs : List Int} (h : ¬ m ≤ 1) (ho : otherOf p < m) : checkGo m p s (x :: xs) = checkGo ((m + 1) / 2) (p / 2) (if p % 2 = 0 then nodeSum s x else nodeSum x s) xs := by
  rw [checkGo.eq_def, if_neg h, if_pos ho]
theorem drop_cons {xs : List Int} {u : Nat} {z : Int} (h : xs[u]? = some z) : xs.drop u = z :: xs.drop (u + 1) := by
  obtain ⟨hu, e⟩ := List.getElem?_eq_some_iff.1 h
  rw [List.drop_eq_getElem_cons hu, e]

set_option maxHeartbeats 1000000 in
theorem c_spec_TreeCheck (lo : Nat) (root many place : Int) (t : ByteArray) (A : Option Addr) (n cap : Nat) (xs : List Int) (w : World) (ht : t.size ≤ 2000000) (hn : n ≤ 2000000) (h : Ints w lo A n cap xs) :
    Calls Try.prog 22 #[.int .i64 root, .int .i64 many, .int .i64 place, .string t, .slice A n cap] w fun e w' => e = .returned (.bool (treeCheck root many place t xs)) ∧ w.grownBy w' none := by
  have hlc := h.le
  have hcm := h.max
  have hxl := Lib.hid h.len
  by_cases hm : 1 ≤ many ∧ many ≤ 8
  · have e1 : inB many 1 8 = true := by simpa [inB] using hm
    obtain ⟨hm1, hm8⟩ := hm
    by_cases hp : 0 ≤ place ∧ place < many
    · have e2 : inB place 0 (many - 1) = true := by simp [inB]; omega
      obtain ⟨hp0, hp1⟩ := hp
      obtain ⟨m0, rfl⟩ := Int.eq_ofNat_of_zero_le (show 0 ≤ many by omega)
      obtain ⟨p0, rfl⟩ := Int.eq_ofNat_of_zero_le hp0
      go_enter Try.func22, Try.ntmps22
      go_wp2_with fail
      refine (c_l6In _ _ _ _).mono ?_
      rintro e w' ⟨rfl, rfl⟩
      go_wp2_with fail
      refine (c_l6In _ _ _ _).mono ?_
      rintro e w' ⟨rfl, rfl⟩
      clear e1
      go_wp2_with fail
      refine (c_spec_LeafSum _ _ _ ht).mono ?_
      rintro e w1 ⟨rfl, hg⟩
      clear e2
      have h1 : Ints w1 lo A n cap xs := Sl.keep0 h hg
      go_wp2_with fail
      go_loop [1, 2, 11, 12] (fun a b c d => ∃ (m p u : Nat) (s : Int), a = .int .i64 (m : Int) ∧ b = .int .i64 (p : Int) ∧ c = .int .i64 s ∧ d = .int .i64 (u : Int) ∧ 1 ≤ m ∧ m ≤ 8 ∧ p < m ∧ u ≤ n ∧
        Hid (checkGo m p s (xs.drop u) = checkGo m0 p0 (leafSum p0 t) xs)) (fun a _ _ _ => (intOf a).toNat)
      case atStart => exact ⟨m0, p0, 0, _, rfl, rfl, rfl, rfl, by omega, by omega, by omega, Nat.zero_le _, Lib.hid rfl⟩
      case round =>
        obtain ⟨m, p, u, s, rfl, rfl, rfl, rfl, hm1', hm8', hpm, hu, hinv⟩ := hrel
        by_cases h1m : m ≤ 1
        · have hfin : Hid (treeCheck root (m0 : Int) (p0 : Int) t xs = (decide (0 ≤ s) && (s == root) && decide (u = n))) := Lib.hid (by
            have hi := hinv.out
            rw [checkGo_end h1m] at hi
            rw [treeCheck, if_pos (by omega), Int.toNat_natCast, Int.toNat_natCast, ← hi]
            show (decide (0 ≤ s) && (s == root) && (xs.drop u).isEmpty) = _
            congr 1
            rw [Bool.eq_iff_iff, List.isEmpty_iff, List.drop_eq_nil_iff, decide_eq_true_eq, hxl.out]
            omega)
          go_wp2
          all_goals
            go_ret
            refine ⟨ret_bool ?_, hg⟩
            rw [hfin.out, Bool.eq_iff_iff]
            simp
            omega
        · by_cases ho : otherOf p < m
          · by_cases hun : u < n
            · obtain ⟨b, off, z, rfl, hz, hcell⟩ := h1.at_ hun
              have hstep : Hid (checkGo ((m + 1) / 2) (p / 2) (if p % 2 = 0 then nodeSum s z else nodeSum z s) (xs.drop (u + 1)) = checkGo m0 p0 (leafSum p0 t) xs) := Lib.hid (by
                have hi := hinv.out
                rwa [drop_cons hz.out, checkGo_cons h1m ho] at hi)
              by_cases hpar : p % 2 = 0
              · have ho' : p + 1 < m := by simpa [otherOf, hpar] using ho
                clear ho
                have hpar' : (p : Int) % 2 = 0 := by omega
                have Hpar := Lib.hid hpar
                clear hpar
                go_wp2_with (go_at_call 16; refine (c_spec_NodeSum _ _ _).mono ?_; rintro e w' ⟨rfl, rfl⟩)
                go_round
                case rel => exact ⟨(m + 1) / 2, p / 2, u + 1, nodeSum s z, by go_num, by go_num, rfl, by go_num, by omega, by omega, by omega, by omega, Lib.hid (by have := hstep.out; rwa [if_pos Hpar.out] at this)⟩
                case measure => simp [intOf]; omega
              · have ho' : p - 1 < m := by simpa [otherOf, hpar] using ho
                clear ho
                have hpar' : (p : Int) % 2 = 1 := by omega
                have hpp : 1 ≤ p := by omega
                have Hpar := Lib.hid hpar
                clear hpar
                go_wp2_with (go_at_call 16; refine (c_spec_NodeSum _ _ _).mono ?_; rintro e w' ⟨rfl, rfl⟩)
                go_round
                case rel => exact ⟨(m + 1) / 2, p / 2, u + 1, nodeSum z s, by go_num, by go_num, rfl, by go_num, by omega, by omega, by omega, by omega, Lib.hid (by have := hstep.out; rwa [if_neg Hpar.out] at this)⟩
                case measure => simp [intOf]; omega
            · obtain rfl : u = n := by omega
              have hfin : Hid (treeCheck root (m0 : Int) (p0 : Int) t xs = false) := Lib.hid (by
                have hi := hinv.out
                rw [List.drop_eq_nil_of_le (by rw [hxl.out]; exact Nat.le_refl _), checkGo_none h1m ho] at hi
                rw [treeCheck, if_pos (by omega), Int.toNat_natCast, Int.toNat_natCast, ← hi]
                rfl)
              by_cases hpar : p % 2 = 0
              · have ho' : p + 1 < m := by simpa [otherOf, hpar] using ho
                have hpar' : (p : Int) % 2 = 0 := by omega
                clear ho hpar
                go_wp2
                go_ret
                exact ⟨ret_bool hfin.out.symm, hg⟩
              · have ho' : p - 1 < m := by simpa [otherOf, hpar] using ho
                have hpar' : (p : Int) % 2 = 1 := by omega
                have hpp : 1 ≤ p := by omega
                clear ho hpar
                go_wp2
                go_ret
                exact ⟨ret_bool hfin.out.symm, hg⟩
          · have hstep : Hid (checkGo ((m + 1) / 2) (p / 2) s (xs.drop u) = checkGo m0 p0 (leafSum p0 t) xs) := Lib.hid (by
              have hi := hinv.out
              rwa [checkGo_skip h1m ho] at hi)
            by_cases hpar : p % 2 = 0
            · have ho' : ¬ p + 1 < m := by simpa [otherOf, hpar] using ho
              have hpar' : (p : Int) % 2 = 0 := by omega
              clear ho hpar
              go_wp2
              go_round
              case rel => exact ⟨(m + 1) / 2, p / 2, u, s, by go_num, by go_num, rfl, rfl, by omega, by omega, by omega, by omega, hstep⟩
              case measure => simp [intOf]; omega
            · have ho' : ¬ p - 1 < m := by simpa [otherOf, hpar] using ho
              have hpp : 1 ≤ p := by omega
              omega
    · have e2 : inB place 0 (many - 1) = false := by simp [inB]; omega
      go_enter Try.func22, Try.ntmps22
      go_wp2_with fail
      refine (c_l6In _ _ _ _).mono ?_
      rintro e w' ⟨rfl, rfl⟩
      go_wp2_with fail
      refine (c_l6In _ _ _ _).mono ?_
      rintro e w' ⟨rfl, rfl⟩
      go_wp2
      go_ret
      exact ⟨ret_bool (by rw [treeCheck, if_neg (by omega)]), gb_refl _ _⟩
  · have e1 : inB many 1 8 = false := by simpa [inB] using hm
    go_enter Try.func22, Try.ntmps22
    go_wp2_with fail
    refine (c_l6In _ _ _ _).mono ?_
    rintro e w' ⟨rfl, rfl⟩
    go_wp2
    go_ret
    exact ⟨ret_bool (by rw [treeCheck, if_neg (by omega)]), gb_refl _ _⟩

theorem xor_one (p : Nat) (hp : p < 8) : bits .xor .i64 (p : Int) 1 = (otherOf p : Int) := by
  have h := i64_xor_nat p 1 (by omega) (by omega)
  rw [show ((1 : Nat) : Int) = 1 from rfl] at h
  rw [h]
  congr 1
  have key : ∀ q : Fin 8, q.val ^^^ 1 = otherOf q.val := by decide
  exact key ⟨p, hp⟩

set_option maxHeartbeats 1000000 in
theorem c_impl_TreeCheck (lo : Nat) (root many place : Int) (t : ByteArray) (A : Option Addr) (n cap : Nat) (xs : List Int) (w : World) (ht : t.size ≤ 2000000) (hn : n ≤ 2000000) (h : Ints w lo A n cap xs) :
    Calls Try.prog 24 #[.int .i64 root, .int .i64 many, .int .i64 place, .string t, .slice A n cap] w fun e w' => e = .returned (.bool (treeCheck root many place t xs)) ∧ w.grownBy w' none := by
  have hlc := h.le
  have hcm := h.max
  have hxl := Lib.hid h.len
  by_cases hmp : 1 ≤ many ∧ many ≤ 8 ∧ 0 ≤ place ∧ place < many
  · obtain ⟨hm1, hm8, hp0, hp1⟩ := hmp
    obtain ⟨m0, rfl⟩ := Int.eq_ofNat_of_zero_le (show 0 ≤ many by omega)
    obtain ⟨p0, rfl⟩ := Int.eq_ofNat_of_zero_le hp0
    go_enter Try.func24, Try.ntmps24
    go_wp2_with fail
    refine (c_impl_LeafSum _ _ _ ht).mono ?_
    rintro e w1 ⟨rfl, hg⟩
    have h1 : Ints w1 lo A n cap xs := Sl.keep0 h hg
    go_wp2_with fail
    go_loop [1, 2, 4, 11] (fun a b v c => ∃ (m p k : Nat) (B : Option Addr) (d : Nat) (ys : List Int) (s : Int), a = .int .i64 (m : Int) ∧ b = .int .i64 (p : Int) ∧ c = .int .i64 s ∧ v = .slice B k d ∧ Ints w1 lo B k d ys ∧ 1 ≤ m ∧ m ≤ 8 ∧ p < m ∧
      Hid (checkGo m p s ys = checkGo m0 p0 (leafSum p0 t) xs)) (fun a _ _ _ => (intOf a).toNat)
    case atStart => exact ⟨m0, p0, n, A, cap, xs, _, rfl, rfl, rfl, rfl, h1, by omega, by omega, by omega, Lib.hid rfl⟩
    case round =>
      obtain ⟨m, p, k, B, d, ys, s, rfl, rfl, rfl, rfl, hI, hm1', hm8', hpm, hinv⟩ := hrel
      have hlc' := hI.le
      have hcm' := hI.max
      have hyl := Lib.hid hI.len
      by_cases h1m : m ≤ 1
      · have hfin : Hid (treeCheck root (m0 : Int) (p0 : Int) t xs = (decide (0 ≤ s) && (s == root) && decide (k = 0))) := Lib.hid (by
          have hi := hinv.out
          rw [checkGo_end h1m] at hi
          rw [treeCheck, if_pos (by omega), Int.toNat_natCast, Int.toNat_natCast, ← hi]
          show (decide (0 ≤ s) && (s == root) && ys.isEmpty) = _
          congr 1
          rw [Bool.eq_iff_iff, List.isEmpty_iff, decide_eq_true_eq, ← hyl.out, List.length_eq_zero_iff])
        go_wp2
        all_goals
          go_ret
          refine ⟨ret_bool ?_, hg⟩
          rw [hfin.out, Bool.eq_iff_iff]
          simp
          omega
      · have hx := xor_one p (by omega)
        by_cases ho : otherOf p < m
        · cases ys with
          | nil =>
            obtain rfl : k = 0 := by have := hyl.out; simpa using this.symm
            have hfin : Hid (treeCheck root (m0 : Int) (p0 : Int) t xs = false) := Lib.hid (by
              have hi := hinv.out
              rw [checkGo_none h1m ho] at hi
              rw [treeCheck, if_pos (by omega), Int.toNat_natCast, Int.toNat_natCast, ← hi]
              rfl)
            go_wp2
            go_ret
            exact ⟨ret_bool hfin.out.symm, hg⟩
          | cons y ys =>
            have hk1 : 1 ≤ k := by have := hyl.out; simp at this; omega
            obtain ⟨b, off, z, rfl, hz, hcell⟩ := hI.at_ (k := 0) (by omega)
            obtain rfl : y = z := by have := hz.out; simpa using this
            rw [Nat.add_zero] at hcell
            have hcut : Ints w1 lo (if d = 1 then some ⟨b, off, none⟩ else some ⟨b, off + 1, none⟩) (k - 1) (d - 1) ys := by
              refine ⟨by omega, Nat.le_trans (Nat.sub_le _ _) hI.2.1, ?_⟩
              have := hI.2.2.cut (k := 1) (cap := d) hk1 hlc'
              simpa [Addr.add] using this
            have hstep : Hid (checkGo ((m + 1) / 2) (p / 2) (if p % 2 = 0 then nodeSum s y else nodeSum y s) ys = checkGo m0 p0 (leafSum p0 t) xs) := Lib.hid (by
              have hi := hinv.out
              rwa [checkGo_cons h1m ho] at hi)
            have hk0 : ((k : Int) == 0) = false := by simp; omega
            by_cases hpar : p % 2 = 0
            · have hoo : p < otherOf p := by simp [otherOf, hpar]
              go_wp2_with (go_at_call 17; refine (c_impl_NodeSum _ _ _).mono ?_; rintro e w' ⟨rfl, rfl⟩)
              go_round
              case rel => exact ⟨(m + 1) / 2, p / 2, k - 1, _, d - 1, ys, nodeSum s y, by go_num, by go_num, rfl, rfl, hcut, by omega, by omega, by omega, Lib.hid (by have := hstep.out; rwa [if_pos hpar] at this)⟩
              case measure => simp [intOf]; omega
            · have hoo : ¬ p < otherOf p := by simp [otherOf, hpar]
              go_wp2_with (go_at_call 17; refine (c_impl_NodeSum _ _ _).mono ?_; rintro e w' ⟨rfl, rfl⟩)
              go_round
              case rel => exact ⟨(m + 1) / 2, p / 2, k - 1, _, d - 1, ys, nodeSum y s, by go_num, by go_num, rfl, rfl, hcut, by omega, by omega, by omega, Lib.hid (by have := hstep.out; rwa [if_neg hpar] at this)⟩
              case measure => simp [intOf]; omega
        · have hstep : Hid (checkGo ((m + 1) / 2) (p / 2) s ys = checkGo m0 p0 (leafSum p0 t) xs) := Lib.hid (by
            have hi := hinv.out
            rwa [checkGo_skip h1m ho] at hi)
          go_wp2
          go_round
          case rel => exact ⟨(m + 1) / 2, p / 2, k, B, d, ys, s, by go_num, by go_num, rfl, rfl, hI, by omega, by omega, by omega, hstep⟩
          case measure => simp [intOf]; omega
  · have hfin : Hid (treeCheck root many place t xs = false) := Lib.hid (by rw [treeCheck, if_neg hmp])
    go_enter Try.func24, Try.ntmps24
    go_wp2_with fail
    all_goals
      go_ret
      exact ⟨ret_bool hfin.out.symm, gb_refl _ _⟩
end Go.Proofs.Ytocdgmmmegcnoaa
