/-
  Proofs of a tree: the reference's and the program's TreeProof.
-/
import Derived.Test.YtocdgmmmegcnoaaRoot
import Derived.Test.YtocdgmmmegcnoaaCheck
namespace Go.Proofs.Ytocdgmmmegcnoaa
open Go.RowKit
set_option linter.unusedVariables false

/-- The other ones of the pairs, from the leaves on. -/
def proofGo (p : Nat) (xs : List Int) : List Int :=
  if xs.length ≤ 1 then [] else (match xs[otherOf p]? with | some z => [z] | none => []) ++ proofGo (p / 2) (upRow xs)
termination_by xs.length
decreasing_by rw [upRow_len]; omega
theorem proofGo_end {p : Nat} {xs : List Int} (h : xs.length ≤ 1) : proofGo p xs = [] := by rw [proofGo.eq_def, if_pos h]
theorem proofGo_some {p : Nat} {z : Int} {xs : List Int} (h : ¬ xs.length ≤ 1) (hz : xs[otherOf p]? = some z) : proofGo p xs = z :: proofGo (p / 2) (upRow xs) := by
  rw [proofGo.eq_def, if_neg h, hz]; rfl
theorem proofGo_none {p : Nat} {xs : List Int} (h : ¬ xs.length ≤ 1) (hz : ¬ otherOf p < xs.length) : proofGo p xs = proofGo (p / 2) (upRow xs) := by
  rw [proofGo.eq_def, if_neg h, List.getElem?_eq_none (by omega)]; rfl
theorem own_base {w : World} {lo lo' e size n : Nat} {v : Value} {xs : List Value} (h : w.ownsRow lo e size v n xs) (hl : lo' ≤ lo) : w.ownsRow lo' e size v n xs := by
  rcases h with ⟨h1, h2⟩
  rcases h2 with h2 | ⟨g, cap, cur, h3, hg, h4⟩
  · exact ⟨h1, .inl h2⟩
  · exact ⟨h1, .inr ⟨g, cap, cur, h3, Nat.le_trans hl hg, h4⟩⟩
def proofOK (ss : List ByteArray) (place : Int) : Bool := treeOK ss && inB place 0 ((ss.length : Int) - 1)
def treeProof (ss : List ByteArray) (place : Int) : List Int := if proofOK ss place then proofGo place.toNat (leavesOf ss) else []

set_option maxHeartbeats 1000000 in
theorem c_spec_TreeProof (lo : Nat) (S : Option Addr) (n cap : Nat) (ss : List ByteArray) (place : Int) (w : World) (h : Strs w lo S n cap ss) (hs : ∀ s ∈ ss, s.size ≤ 2000000) :
    Calls Try.prog 32 #[.slice S n cap, .int .i64 place] w fun e w' => ∃ A m c, e = .returned (.tuple #[.slice A m c, .bool (proofOK ss place)]) ∧ w.grownBy w' none ∧
      w'.ownsRow w.heap.size 3 1 (.slice A m c) m ((treeProof ss place).map (Value.int .i64)) := by
  have hxl := Lib.hid h.len
  have hcm := h.max
  have hlc := h.le
  by_cases hbad : proofOK ss place = false
  · have Hbad := Lib.hid hbad
    have Htp : Hid (treeProof ss place = []) := Lib.hid (by rw [treeProof, hbad]; rfl)
    by_cases hok : treeOK ss = true
    · have hp : inB place 0 ((n : Int) - 1) = false := by rw [proofOK, hok, hxl.out] at hbad; simpa using hbad
      clear hbad
      have hw1 : IntKind.i64.wrap ((n : Int) - 1) = (n : Int) - 1 := IntWalk.i64_in _ (by omega)
      go_enter Try.func32, Try.ntmps32
      go_wp2_with fail
      refine (c_l44Ok lo _ _ _ ss _ (Sl.keep0 h (gb_alloc (gb_refl _ _) _)) hs).mono ?_
      rintro e w1 ⟨rfl, hg1⟩
      have hG1 := gb_trans (gb_alloc (gb_refl w none) (.cells #[] 3)) hg1
      have hown := own_below (own_empty w w.heap.size 3 1 (Nat.le_refl _)) hg1
      go_wp2_with fail
      refine (c_l6In _ _ _ _).mono ?_
      rintro e w' ⟨rfl, rfl⟩
      go_wp2
      go_ret2
      exact ⟨_, 0, _, by rw [Hbad.out]; rfl, hG1, by rw [Htp.out]; exact hown⟩
    · have hok' : treeOK ss = false := by simpa using hok
      clear hok hbad
      go_enter Try.func32, Try.ntmps32
      go_wp2_with fail
      refine (c_l44Ok lo _ _ _ ss _ (Sl.keep0 h (gb_alloc (gb_refl _ _) _)) hs).mono ?_
      rintro e w1 ⟨rfl, hg1⟩
      have hG1 := gb_trans (gb_alloc (gb_refl w none) (.cells #[] 3)) hg1
      have hown := own_below (own_empty w w.heap.size 3 1 (Nat.le_refl _)) hg1
      go_wp2
      go_ret2
      exact ⟨_, 0, _, by rw [Hbad.out]; rfl, hG1, by rw [Htp.out]; exact hown⟩
  · have hgood : proofOK ss place = true := by simpa using hbad
    clear hbad
    have Hgood := Lib.hid hgood
    have hok : treeOK ss = true := by rw [proofOK, Bool.and_eq_true] at hgood; exact hgood.1
    have hp : inB place 0 ((n : Int) - 1) = true := by rw [proofOK, Bool.and_eq_true, hxl.out] at hgood; exact hgood.2
    have hn : 1 ≤ n ∧ n ≤ 8 := by have := hok; simp [treeOK, inB, hxl.out] at this; omega
    have hpb : 0 ≤ place ∧ place < n := by have := hp; simp [inB] at this; omega
    obtain ⟨hn1, hn8⟩ := hn
    obtain ⟨hp0, hpn⟩ := hpb
    obtain ⟨p0, rfl⟩ := Int.eq_ofNat_of_zero_le hp0
    have Htp : Hid (treeProof ss (p0 : Int) = proofGo p0 (leavesOf ss)) := Lib.hid (by rw [treeProof, hgood, if_pos rfl, Int.toNat_natCast])
    have hw1 : IntKind.i64.wrap ((n : Int) - 1) = (n : Int) - 1 := IntWalk.i64_in _ (by omega)
    clear hgood
    go_enter Try.func32, Try.ntmps32
    go_wp2_with fail
    refine (c_l44Ok lo _ _ _ ss _ (Sl.keep0 h (gb_alloc (gb_refl _ _) _)) hs).mono ?_
    rintro e w1 ⟨rfl, hg1⟩
    have hG1 := gb_trans (gb_alloc (gb_refl w none) (.cells #[] 3)) hg1
    have hown1 := own_below (own_empty w w.heap.size 3 1 (Nat.le_refl _)) hg1
    go_wp2_with fail
    refine (c_l6In _ _ _ _).mono ?_
    rintro e w' ⟨rfl, rfl⟩
    clear hok hw1
    go_wp2_with fail
    refine (c_l44Leaves lo _ _ _ ss _ (Sl.keep0 h hG1) (by omega) hs).mono ?_
    rintro e w2 ⟨B, c, rfl, hg2, hown2⟩
    have hownA := own_below hown1 hg2
    have hG2 := gb_trans hG1 hg2
    have hownB := own_base (lo' := w.heap.size) hown2 hG1.size
    have hnR : ∀ g, (Value.slice (some ⟨w.heap.size, 0, none⟩) 0 0).ownBlock = some g → (Value.slice B n c).ownBlock ≠ some g := by
      intro g e e'
      injection e with e
      have := hown2.lt g e'
      have := hown1.lt g (by rw [← e]; rfl)
      omega
    clear hs hown1 hown2
    go_wp2_with fail
    go_loopw [1, 6, 7] (fun pv v6 v7 wr => ∃ (p m k : Nat) (A : Option Addr) (c : Nat) (B : Option Addr) (d : Nat) (ys zs : List Int), pv = .int .i64 (p : Int) ∧ v7 = .slice B m d ∧ v6 = .slice A k c ∧
      wr.ownsRow w.heap.size 3 1 (.slice A k c) k (zs.map (Value.int .i64)) ∧ wr.ownsRow w.heap.size 3 1 (.slice B m d) m (ys.map (Value.int .i64)) ∧
      (∀ g, (Value.slice A k c).ownBlock = some g → (Value.slice B m d).ownBlock ≠ some g) ∧ Below w.heap.size w wr ∧ 1 ≤ m ∧ m ≤ 8 ∧ p < m ∧ k + m ≤ 8 + 1 ∧
      Hid (zs ++ proofGo p ys = proofGo p0 (leavesOf ss))) (fun _ _ v _ => match v with | .slice _ m _ => m | _ => 0)
    case atStart => exact ⟨p0, n, 0, _, _, _, _, _, [], rfl, rfl, rfl, hownA, hownB, hnR, gb_below hG2, hn1, hn8, by omega, by omega, Lib.hid rfl⟩
    case round =>
      obtain ⟨p, m, k, A, c, B, d, ys, zs, rfl, rfl, rfl, hownA, hownB, hne, hb, hm1, hm8, hpm, hkm, hinv⟩ := hrel
      have hyl := Lib.hid (own_len hownB)
      have hbs := hb.size
      by_cases h1m : m ≤ 1
      · have hfin : zs = treeProof ss (p0 : Int) := by
          have hi := hinv.out
          rw [proofGo_end (by rw [hyl.out]; exact h1m), List.append_nil] at hi
          rw [Htp.out, hi]
        subst hfin
        go_wp2
        go_ret2
        exact ⟨A, k, c, by rw [Hgood.out]; rfl, gb_of_below hb none, hownA⟩
      · have h1y : Hid (¬ ys.length ≤ 1) := Lib.hid (by rw [hyl.out]; exact h1m)
        have hul : Hid ((upRow ys).length = (m + 1) / 2) := Lib.hid (by rw [upRow_len, hyl.out])
        by_cases hpar : p % 2 = 0
        · have hpar' : (p : Int) % 2 = 0 := by omega
          have hoe : Hid (otherOf p = p + 1) := Lib.hid (by simp [otherOf, hpar])
          by_cases ho : p + 1 < m
          · skip
            obtain ⟨b, off, z, rfl, hz, hcell⟩ := (show Ints wr _ B m d ys from Sl.own hownB).at_ ho
            have hst : Hid (proofGo p ys = z :: proofGo (p / 2) (upRow ys)) := Lib.hid (proofGo_some h1y.out (by rw [hoe.out]; exact hz.out))
            have hlcB := (Sl.own hownB).le
            have hcmB := (Sl.own hownB).max
            go_wp2_with (at_builtin; refine wpList_app intE rfl _ _ rfl w.heap.size k _ _ rfl hownA [_] rfl rfl (by simp [Value.oneCell']) (by omega) (by omega) hbs ?_; intro A' c' w3 hown3 hb3 hg3 hat3)
            have hownB3 := own_kept hownB hg3 (fun g e => .inr (hne g e))
            have hb4 := hb.trans hb3
            have hltB := hownB.lt
            have hgr := hb3.size
            refine (c_l44Up _ _ _ _ ys _ (Sl.own hownB3) (by omega)).mono ?_
            rintro e w4 ⟨B', d', m', rfl, hg4, hown4⟩
            have hm' : m' = (m + 1) / 2 := by rw [← own_len hown4, hul.out]
            have hownA4 := own_below hown3 hg4
            have hb5 := below_gbn hb4 hg4 hb4.size
            have hownB4 := own_base (lo' := w.heap.size) hown4 hb4.size
            have hne4 : ∀ g, (Value.slice A' (k + 1) c').ownBlock = some g → (Value.slice B' m' d').ownBlock ≠ some g := by
              intro g e e'
              have := hown3.lt g e
              have := hown4.lt g e'
              omega
            have Hm := Lib.hid hm'
            have hma : m' < m := by omega
            have hmb : 1 ≤ m' := by omega
            have hpm' : p / 2 < m' := by omega
            clear hm'
            go_wp2
            go_roundw
            case rel => exact ⟨p / 2, m', k + 1, A', c', B', d', upRow ys, zs ++ [z], by go_num, rfl, rfl, by rw [List.map_append]; exact hownA4, hownB4, hne4, hb5, hmb, by omega, hpm', by omega, Lib.hid (by
              have hi := hinv.out
              rw [hst.out] at hi
              rw [List.append_assoc]
              exact hi)⟩
            case measure => exact hma
          · have hst : Hid (proofGo p ys = proofGo (p / 2) (upRow ys)) := Lib.hid (proofGo_none h1y.out (by rw [hoe.out, hyl.out]; exact ho))
            go_wp2_with fail
            refine (c_l44Up _ _ _ _ ys _ (Sl.own hownB) (by omega)).mono ?_
            rintro e w4 ⟨B', d', m', rfl, hg4, hown4⟩
            have hm' : m' = (m + 1) / 2 := by rw [← own_len hown4, hul.out]
            have hownA4 := own_below hownA hg4
            have hb5 := below_gbn hb hg4 hbs
            have hownB4 := own_base (lo' := w.heap.size) hown4 hbs
            have hne4 : ∀ g, (Value.slice A k c).ownBlock = some g → (Value.slice B' m' d').ownBlock ≠ some g := by
              intro g e e'
              have := hownA.lt g e
              have := hown4.lt g e'
              omega
            have Hm := Lib.hid hm'
            have hma : m' < m := by omega
            have hmb : 1 ≤ m' := by omega
            have hpm' : p / 2 < m' := by omega
            clear hm'
            go_wp2
            go_roundw
            case rel => exact ⟨p / 2, m', k, A, c, B', d', upRow ys, zs, by go_num, rfl, rfl, hownA4, hownB4, hne4, hb5, hmb, by omega, hpm', by omega, Lib.hid (by rw [← hst.out]; exact hinv.out)⟩
            case measure => exact hma
        · have hpar' : (p : Int) % 2 = 1 := by omega
          have hpp : 1 ≤ p := by omega
          have hoe : Hid (otherOf p = p - 1) := Lib.hid (by simp [otherOf, hpar])
          have ho : p - 1 < m := by omega
          have hio : ((p - 1 : Nat) : Int) = (p : Int) - 1 := by omega
          obtain ⟨b, off, z, rfl, hz, hcell⟩ := (show Ints wr _ B m d ys from Sl.own hownB).at_ ho
          have hst : Hid (proofGo p ys = z :: proofGo (p / 2) (upRow ys)) := Lib.hid (proofGo_some h1y.out (by rw [hoe.out]; exact hz.out))
          have hlcB := (Sl.own hownB).le
          have hcmB := (Sl.own hownB).max
          go_wp2_with (at_builtin; refine wpList_app intE rfl _ _ rfl w.heap.size k _ _ rfl hownA [_] rfl rfl (by simp [Value.oneCell']) (by omega) (by omega) hbs ?_; intro A' c' w3 hown3 hb3 hg3 hat3)
          have hownB3 := own_kept hownB hg3 (fun g e => .inr (hne g e))
          have hb4 := hb.trans hb3
          have hltB := hownB.lt
          have hgr := hb3.size
          refine (c_l44Up _ _ _ _ ys _ (Sl.own hownB3) (by omega)).mono ?_
          rintro e w4 ⟨B', d', m', rfl, hg4, hown4⟩
          have hm' : m' = (m + 1) / 2 := by rw [← own_len hown4, hul.out]
          have hownA4 := own_below hown3 hg4
          have hb5 := below_gbn hb4 hg4 hb4.size
          have hownB4 := own_base (lo' := w.heap.size) hown4 hb4.size
          have hne4 : ∀ g, (Value.slice A' (k + 1) c').ownBlock = some g → (Value.slice B' m' d').ownBlock ≠ some g := by
            intro g e e'
            have := hown3.lt g e
            have := hown4.lt g e'
            omega
          have Hm := Lib.hid hm'
          have hma : m' < m := by omega
          have hmb : 1 ≤ m' := by omega
          have hpm' : p / 2 < m' := by omega
          clear hm'
          go_wp2
          go_roundw
          case rel => exact ⟨p / 2, m', k + 1, A', c', B', d', upRow ys, zs ++ [z], by go_num, rfl, rfl, by rw [List.map_append]; exact hownA4, hownB4, hne4, hb5, hmb, by omega, hpm', by omega, Lib.hid (by
            have hi := hinv.out
            rw [hst.out] at hi
            rw [List.append_assoc]
            exact hi)⟩
          case measure => exact hma
theorem upRows_short (n : Nat) : ∀ xs : List Int, xs.length = n → (upRows xs).length ≤ n := by
  induction n using Nat.strongRecOn with
  | _ n ih =>
    intro xs h
    by_cases h1 : xs.length ≤ 1
    · rw [upRows_end h1]; exact Nat.zero_le _
    · rw [upRows_up h1]
      have := ih (upRow xs).length (by rw [upRow_len]; omega) (upRow xs) rfl
      rw [upRow_len] at this
      rw [List.length_cons]
      omega
theorem drop_some {α : Type} {l : List α} {k : Nat} {a : α} {r : List α} (h : l.drop k = a :: r) : l[k]? = some a ∧ l.drop (k + 1) = r := by
  refine ⟨?_, ?_⟩
  · have := congrArg (fun l => l[0]?) h
    simpa [List.getElem?_drop] using this
  · have := congrArg (List.drop 1) h
    simpa [List.drop_drop] using this

set_option maxHeartbeats 1000000 in
theorem c_impl_TreeProof (lo : Nat) (S : Option Addr) (n cap : Nat) (ss : List ByteArray) (place : Int) (w : World) (h : Strs w lo S n cap ss) (hs : ∀ s ∈ ss, s.size ≤ 2000000) :
    Calls Try.prog 33 #[.slice S n cap, .int .i64 place] w fun e w' => ∃ A m c, e = .returned (.tuple #[.slice A m c, .bool (proofOK ss place)]) ∧ w.grownBy w' none ∧
      w'.ownsRow w.heap.size 3 1 (.slice A m c) m ((treeProof ss place).map (Value.int .i64)) := by
  have hxl := Lib.hid h.len
  have hcm := h.max
  have hlc := h.le
  have hnil : ∀ W, (binOp .eql 61 (.slice none 0 0) (.slice none 0 0)).run Try.prog W = .ok (.bool true) W := fun W => Lib.run_eql_slice_nil W _ _ none 0 0 0 0 Try.underlying61
  have hsome : ∀ (b o n c : Nat) W, (binOp .eql 61 (.slice (some ⟨b, o, none⟩) n c) (.slice none 0 0)).run Try.prog W = .ok (.bool false) W := fun b o n c W => Lib.run_eql_slice_nil W _ _ _ n c 0 0 Try.underlying61
  go_enter Try.func33, Try.ntmps33
  go_wp2_with fail
  refine (c_treeRows lo _ _ _ ss _ h hs).mono ?_
  rintro e w1 ⟨hg, ⟨hok, rfl⟩ | ⟨hok, D, R, c, vs, rfl, hD, hrows⟩⟩
  · have hbad : proofOK ss place = false := by rw [proofOK, hok]; rfl
    have Hbad := Lib.hid hbad
    have Htp : Hid (treeProof ss place = []) := Lib.hid (by rw [treeProof, hbad]; rfl)
    clear hok hbad
    go_wp2
    go_ret2
    exact ⟨_, 0, _, by rw [Hbad.out]; rfl, hg, by rw [Htp.out]; exact own_nil _ _ _ _⟩
  · have hvl : vs.length = R := by have := hD.1; omega
    have hR : R = (upRows (leavesOf ss)).length + 1 := by rw [← hvl, hrows.1]; rfl
    obtain ⟨r, hr⟩ : ∃ r, (upRows (leavesOf ss)).length = r := ⟨_, rfl⟩
    rw [hr] at hR
    subst hR
    have hS := Sl.own hD
    have hlcD := hS.le
    have hcmD := hS.max
    obtain ⟨bD, offD, v0, hDe, _, _⟩ := hS.at1 (k := r) (by omega)
    injection hDe with hDe
    subst hDe
    by_cases hp : 0 ≤ place ∧ place < n
    case neg =>
      have hbad : proofOK ss place = false := by
        rw [proofOK, hok, hxl.out]
        simp [inB]
        omega
      have Hbad := Lib.hid hbad
      have Htp : Hid (treeProof ss place = []) := Lib.hid (by rw [treeProof, hbad]; rfl)
      clear hok hbad hrows hD hS hvl hr
      by_cases hp0 : place < 0
      · go_wp2
        go_ret2
        exact ⟨_, 0, _, by rw [Hbad.out]; rfl, hg, by rw [Htp.out]; exact own_nil _ _ _ _⟩
      · have hpn : (n : Int) ≤ place := by omega
        go_wp2
        go_ret2
        exact ⟨_, 0, _, by rw [Hbad.out]; rfl, hg, by rw [Htp.out]; exact own_nil _ _ _ _⟩
    obtain ⟨hp0, hpn⟩ := hp
    have hn : 1 ≤ n ∧ n ≤ 8 := by have := hok; simp [treeOK, inB, hxl.out] at this; omega
    obtain ⟨hn1, hn8⟩ := hn
    have hgood : proofOK ss place = true := by
      rw [proofOK, hok, hxl.out]
      simp [inB]
      omega
    have Hgood := Lib.hid hgood
    obtain ⟨p0, rfl⟩ := Int.eq_ofNat_of_zero_le hp0
    have Htp : Hid (treeProof ss (p0 : Int) = proofGo p0 (leavesOf ss)) := Lib.hid (by rw [treeProof, hgood, if_pos rfl, Int.toNat_natCast])
    have hr8 : r ≤ 8 := by rw [← hr]; have := upRows_short _ (leavesOf ss) rfl; rw [leavesOf_len, hxl.out] at this; omega
    have hlr : (allRows ss).length = r + 1 := by rw [← hr]; rfl
    have Hlr := Lib.hid hlr
    have Hr := Lib.hid hr
    have hw1 : IntKind.i64.wrap (((r + 1 : Nat) : Int) - 1) = (r : Int) := by rw [IntWalk.i64_in _ (by omega)]; omega
    have hp0n : p0 < n := by omega
    have hll := Lib.hid (leavesOf_len ss)
    clear hgood hok hr hlr hvl hS
    go_wp2
    go_loopw [1, 7, 31] (fun pv v7 i wr => ∃ (p k j : Nat) (A : Option Addr) (c : Nat) (ys zs : List Int), pv = .int .i64 (p : Int) ∧ i = .int .i64 (k : Int) ∧ v7 = .slice A j c ∧
      wr.ownsRow w1.heap.size 3 1 (.slice A j c) j (zs.map (Value.int .i64)) ∧ Below w1.heap.size w1 wr ∧ k ≤ r ∧ p < 8 ∧ j ≤ k ∧ Hid (p < ys.length) ∧ Hid ((allRows ss).drop k = ys :: upRows ys) ∧
      Hid (zs ++ proofGo p ys = proofGo p0 (leavesOf ss))) (fun _ _ i _ => r - (intOf i).toNat)
    case atStart => exact ⟨p0, 0, 0, _, _, leavesOf ss, [], rfl, rfl, rfl, own_nil _ _ _ _, Below.refl _ _, Nat.zero_le _, by omega, Nat.le_refl _, Lib.hid (by rw [hll.out, hxl.out]; exact hp0n), Lib.hid rfl, Lib.hid rfl⟩
    case round =>
      obtain ⟨p, k, j, A, c', ys, zs, rfl, rfl, rfl, hown, hb, hk, hp8, hjk, hpy, hdrop, hinv⟩ := hrel
      have hbs := hb.size
      obtain ⟨hyk, hnext⟩ := drop_some hdrop.out
      have Hnext := Lib.hid hnext
      have Hyk := Lib.hid hyk
      clear hyk hnext
      by_cases hlt : k < r
      · have h1y : Hid (¬ ys.length ≤ 1) := Lib.hid (fun e => by
          have h1 := Hnext.out
          rw [upRows_end e, List.drop_eq_nil_iff, Hlr.out] at h1
          omega)
        obtain ⟨b, off, v, hDe, hv, hcell0⟩ := (Sl.own hD).at1 (k := k) (by omega)
        injection hDe with hDe
        injection hDe with e1 e2
        subst e1 e2
        have hbl : bD < w1.heap.size := World.block_lt_of_cell? _ _ hcell0
        have hcell := (hb.cell (p := ⟨bD, offD + k, none⟩) hbl).trans hcell0
        clear hcell0
        obtain ⟨Y, m, cy, rfl, hI, hm, _⟩ := hrows.2 k v ys hv.out Hyk.out
        have hIr : Ints wr _ Y m cy ys := sl_below hI hb (Nat.le_refl _)
        have hlcY := hIr.le
        have hcmY := hIr.max
        have hyl := Lib.hid hIr.len
        have hpm : p < m := by have := hpy.out; rw [hyl.out] at this; exact this
        have hx := xor_one p hp8
        have hul : Hid (p / 2 < (upRow ys).length) := Lib.hid (by rw [upRow_len, hyl.out]; omega)
        have hd' : Hid ((allRows ss).drop (k + 1) = upRow ys :: upRows (upRow ys)) := Lib.hid (by rw [Hnext.out, upRows_up h1y.out])
        have hkr : (k : Int) < (r : Int) := by omega
        clear hv hI
        by_cases ho : otherOf p < m
        · obtain ⟨b, off, z, rfl, hz, hcellz⟩ := hIr.at_ ho
          have hst : Hid (proofGo p ys = z :: proofGo (p / 2) (upRow ys)) := Lib.hid (proofGo_some h1y.out hz.out)
          clear hIr
          go_wp2_with (at_builtin; refine wpList_app intE rfl _ _ rfl w1.heap.size j _ _ rfl hown [_] rfl rfl (by simp [Value.oneCell']) (by omega) (by omega) hbs ?_; intro A' c3 w3 hown3 hb3 hg3 hat3)
          refine ⟨⟨_, _, _, _, _, ⟨p / 2, by go_num, k + 1, by go_num, j + 1, A', c3, rfl, upRow ys, zs ++ [z], by rw [List.map_append]; exact hown3, hb.trans hb3, by omega, by omega, by omega, hul, hd', Lib.hid (by
            have hi := hinv.out
            rw [hst.out] at hi
            rw [List.append_assoc]
            exact hi)⟩, rfl, rfl, rfl, rfl, rfl⟩, ?_⟩
          simp [intOf]; omega
        · have hst : Hid (proofGo p ys = proofGo (p / 2) (upRow ys)) := Lib.hid (proofGo_none h1y.out (by rw [hyl.out]; exact ho))
          clear hIr
          go_wp2
          go_roundw
          case rel => exact ⟨p / 2, k + 1, j, A, c', upRow ys, zs, by go_num, by go_num, rfl, hown, hb, by omega, by omega, by omega, hul, hd', Lib.hid (by rw [← hst.out]; exact hinv.out)⟩
          case measure => simp [intOf]; omega
      · obtain rfl : k = r := by omega
        have hy1 : ys.length ≤ 1 := by
          rcases Nat.lt_or_ge 1 ys.length with h1 | h1
          · exfalso
            have h2 := Hnext.out
            rw [List.drop_eq_nil_of_le (by rw [Hlr.out]; exact Nat.le_refl _), upRows_up (by omega)] at h2
            cases h2
          · exact h1
        have hfin : zs = treeProof ss (p0 : Int) := by
          have hi := hinv.out
          rw [proofGo_end hy1, List.append_nil] at hi
          rw [Htp.out, hi]
        subst hfin
        clear hy1
        go_wp2
        go_ret2
        exact ⟨A, j, c', by rw [Hgood.out]; rfl, gb_trans hg (gb_of_below hb none), own_base hown hg.size⟩
theorem proofGo_short (k : Nat) : ∀ (p : Nat) (xs : List Int), xs.length ≤ 2 ^ k → (proofGo p xs).length ≤ k := by
  induction k with
  | zero =>
    intro p xs h
    rw [proofGo_end (by simpa using h)]
    exact Nat.le_refl _
  | succ k ih =>
    intro p xs h
    by_cases h1 : xs.length ≤ 1
    · rw [proofGo_end h1]; exact Nat.zero_le _
    · have hu := ih (p / 2) (upRow xs) (by rw [upRow_len]; have : 2 ^ (k + 1) = 2 * 2 ^ k := by rw [Nat.pow_succ, Nat.mul_comm]
                                           omega)
      by_cases ho : otherOf p < xs.length
      · rw [proofGo_some h1 (List.getElem?_eq_getElem ho), List.length_cons]; omega
      · rw [proofGo_none h1 ho]; omega
theorem treeProof_short (ss : List ByteArray) (place : Int) : (treeProof ss place).length ≤ 3 := by
  unfold treeProof
  split
  · rename_i h
    rw [proofOK, Bool.and_eq_true] at h
    have h1 := h.1
    simp [treeOK, inB] at h1
    exact proofGo_short 3 _ _ (by rw [leavesOf_len]; omega)
  · exact Nat.zero_le _
end Go.Proofs.Ytocdgmmmegcnoaa
