/-
  BallotPrefers of the program and of the reference; tables of ints that are being made.
-/
import Derived.Test.YtboobimpoddacaaGreatDoorWin
import Derived.Test.YtboobimpoddacaaGreatDoorPairLaw
namespace Go.Proofs.YtboobimpoddacaaGreatDoor
open Go.RowKit
set_option linter.unusedVariables false

theorem c_impl_BallotPrefers (lo : Nat) (A : Option Addr) (n cap : Nat) (b : List Int) (x y : Int) (w : World) (h : Ints w lo A n cap b) (hok : ballotOK b 5 = true) :
    Calls Tryz.prog 95 #[.slice A n cap, .int .i64 x, .int .i64 y] w fun e w' => e = .returned (.bool (pref b x y)) ∧ w = w' := by
  have Hok := Lib.hid hok
  clear hok
  by_cases hxy : x = y
  · subst hxy
    have hp : Hid (pref b x x = false) := Lib.hid (by simp [pref])
    have hbb : (x == x) = true := by simp
    go_enter Tryz.func95, Tryz.ntmps95
    go_wp2_with fail
    refine (c_impl_BallotValid lo A n cap b _ _ h).mono ?_
    rintro e w1 ⟨rfl, rfl⟩
    rw [Hok.out]
    go_wp2
    go_ret
    exact ⟨ret_bool hp.out.symm, rfl⟩
  · have hbb : (x == y) = false := by simpa using hxy
    have hp : Hid (pref b x y = (decide (0 ≤ idx b x) && (decide (idx b y < 0) || decide (idx b x < idx b y)))) := Lib.hid (by unfold pref; rw [prefL_idx x y hxy]; simp [hxy])
    have hf := c_Index lo A n cap b x w h
    have hs := c_Index lo A n cap b y w h
    obtain ⟨f, ef⟩ : ∃ f, idx b x = f := ⟨_, rfl⟩
    obtain ⟨s, es⟩ : ∃ s, idx b y = s := ⟨_, rfl⟩
    rw [ef] at hf hp
    rw [es] at hs hp
    have Hf := Lib.hid hf
    have Hs := Lib.hid hs
    clear hf hs ef es hxy
    go_enter Tryz.func95, Tryz.ntmps95
    go_wp2_with fail
    refine (c_impl_BallotValid lo A n cap b _ _ h).mono ?_
    rintro e w1 ⟨rfl, rfl⟩
    rw [Hok.out]
    go_wp2_with fail
    refine Hf.out.mono ?_
    rintro e w1 ⟨rfl, rfl⟩
    go_wp2_with fail
    refine Hs.out.mono ?_
    rintro e w1 ⟨rfl, rfl⟩
    by_cases h1 : 0 ≤ f
    · by_cases h2 : s < 0
      · go_wp2
        go_ret
        exact ⟨ret_bool (by rw [hp.out]; simp [h1, h2]), rfl⟩
      · by_cases h3 : f < s
        · go_wp2
          go_ret
          exact ⟨ret_bool (by rw [hp.out]; simp [h1, h3]), rfl⟩
        · go_wp2
          go_ret
          exact ⟨ret_bool (by rw [hp.out]; simp; omega), rfl⟩
    · go_wp2
      go_ret
      exact ⟨ret_bool (by rw [hp.out]; simp; omega), rfl⟩

theorem c_spec_BallotPrefers (lo : Nat) (A : Option Addr) (n cap : Nat) (b : List Int) (x y : Int) (w : World) (h : Ints w lo A n cap b) (hok : ballotOK b 5 = true) :
    Calls Tryz.prog 136 #[.slice A n cap, .int .i64 x, .int .i64 y] w fun e w' => e = .returned (.bool (pref b x y)) ∧ w.grownBy w' none := by
  have hlc := h.le
  have hcm := h.max
  have hxl := Lib.hid h.len
  have Hok := Lib.hid hok
  clear hok
  by_cases hxy : x = y
  · subst hxy
    have hp : Hid (pref b x x = false) := Lib.hid (by simp [pref])
    have hbb : (x == x) = true := by simp
    go_enter Tryz.func136, Tryz.ntmps136
    go_wp2_with fail
    refine (c_spec_BallotValid lo A n cap b _ _ h).mono ?_
    rintro e w1 ⟨rfl, d, rfl⟩
    rw [Hok.out]
    go_wp2
    go_ret
    exact ⟨ret_bool hp.out.symm, gb_drewN (gb_refl _ _) d⟩
  · have hbb : (x == y) = false := by simpa using hxy
    have hp : Hid (pref b x y = prefL x y (b.drop 0)) := Lib.hid (by unfold pref; simp [hxy])
    go_enter Tryz.func136, Tryz.ntmps136
    go_wp2_with fail
    refine (c_spec_BallotValid lo A n cap b _ _ h).mono ?_
    rintro e w1 ⟨rfl, d, rfl⟩
    rw [Hok.out]
    go_wp2
    go_loopw [7] (fun i wr => ∃ k d : Nat, k ≤ n ∧ i = .int .i64 k ∧ wr = w.drewN d ∧ Hid (pref b x y = prefL x y (b.drop k))) (fun i _ => n - (intOf i).toNat)
    case atStart => exact ⟨0, d, Nat.zero_le _, rfl, rfl, hp⟩
    case round =>
      obtain ⟨k, d', hk, rfl, rfl, hpre⟩ := hrel
      clear hp
      by_cases hlt : k < n
      · obtain ⟨bb, off, z, rfl, hz, hcell⟩ := h.at_ hlt
        have hk' : (k : Int) < (n : Int) := by omega
        have hk0 : (0 : Int) ≤ (k : Int) := by omega
        have hst : Hid (pref b x y = if z = x ∨ z = y then decide (z = x) else prefL x y (b.drop (k + 1))) := Lib.hid (by rw [hpre.out, drop_cons' hz.out, prefL])
        clear hz hpre
        by_cases hzx : z = x
        · have e1 : (z == x) = true := by simpa using hzx
          have Hzx := Lib.hid hzx
          clear hzx
          go_wp2
          try (go_quiet (fail))
          go_wp2
          go_ret
          exact ⟨ret_bool (by rw [hst.out, if_pos (.inl Hzx.out), Hzx.out]; simp), gb_drewN (gb_refl _ _) _⟩
        · have e1 : (z == x) = false := by simpa using hzx
          have Hzx := Lib.hid hzx
          clear hzx
          by_cases hzy : z = y
          · have e2 : (z == y) = true := by simpa using hzy
            have Hzy := Lib.hid hzy
            clear hzy
            go_wp2
            try (go_quiet (fail))
            go_wp2
            go_ret
            exact ⟨ret_bool (by rw [hst.out, if_pos (.inr Hzy.out)]; simp [Hzx.out]), gb_drewN (gb_refl _ _) _⟩
          · have e2 : (z == y) = false := by simpa using hzy
            have Hzy := Lib.hid hzy
            clear hzy
            go_wp2
            try (go_quiet (fail))
            go_wp2
            go_roundw
            case rel => exact ⟨k + 1, _, by omega, by go_num, rfl, Lib.hid (by rw [hst.out, if_neg (by rintro (e | e); exact Hzx.out e; exact Hzy.out e)])⟩
            case measure => simp [intOf]; omega
      · obtain rfl : k = n := by omega
        go_wp2
        go_ret
        exact ⟨ret_bool (by rw [hpre.out, List.drop_of_length_le (by rw [hxl.out]; exact Nat.le_refl _)]; rfl), gb_drewN (gb_refl _ _) _⟩

/-- The first x rows are made, row x is r, the others are nil. -/
def upTo (n x : Nat) (f : Nat → Nat → Int) (r : Row) : List Row := (List.range n).map fun i => if i < x then tabRow n (f i) else if i = x then r else []
theorem upTo_len (n x : Nat) (f : Nat → Nat → Int) (r : Row) : (upTo n x f r).length = n := by simp [upTo]
theorem upTo_at {n x : Nat} (f : Nat → Nat → Int) (r : Row) (h : x < n) : (upTo n x f r)[x]? = some r := by simp [upTo, h]
theorem upTo_set {n x : Nat} (f : Nat → Nat → Int) (r r' : Row) : (upTo n x f r).set x r' = upTo n x f r' := by
  apply List.ext_getElem?
  intro j
  by_cases hj : j < n
  · by_cases hk : x = j
    · subst hk
      rw [List.getElem?_set_self (by rw [upTo_len]; exact hj), upTo_at _ _ hj]
    · rw [List.getElem?_set_ne hk]
      have hne : ¬ j = x := fun e => hk e.symm
      simp [upTo, hj, hne]
  · rw [List.getElem?_eq_none (by rw [List.length_set, upTo_len]; omega), List.getElem?_eq_none (by rw [upTo_len]; omega)]
theorem upTo_next {n x : Nat} (f : Nat → Nat → Int) : upTo n x f (tabRow n (f x)) = upTo n (x + 1) f [] := by
  unfold upTo
  apply List.map_congr_left
  intro i _
  by_cases h1 : i < x
  · rw [if_pos h1, if_pos (by omega)]
  · by_cases h2 : i = x
    · subst h2
      rw [if_neg h1, if_pos rfl, if_pos (by omega)]
    · rw [if_neg h1, if_neg h2, if_neg (by omega)]
      split <;> rfl
theorem upTo_zero (n : Nat) (f : Nat → Nat → Int) : upTo n 0 f [] = List.replicate n [] := by
  apply List.ext_getElem?
  intro j
  by_cases hj : j < n
  · rw [List.getElem?_replicate, if_pos hj]
    simp [upTo, hj]
  · rw [List.getElem?_eq_none (by rw [upTo_len]; omega), List.getElem?_eq_none (by simp; omega)]
theorem upTo_all (n : Nat) (f : Nat → Nat → Int) : upTo n n f [] = tabOf n f := by
  unfold upTo tabOf
  apply List.map_congr_left
  intro i hi
  rw [if_pos (List.mem_range.1 hi)]
/-- A row made up to y, where v stands. -/
def rowTo (n y : Nat) (f : Nat → Int) (v : Int) : Row := tabRow n fun j => if j < y then f j else if j = y then v else 0
theorem rowTo_len (n y : Nat) (f : Nat → Int) (v : Int) : (rowTo n y f v).length = n := tabRow_len _ _
theorem rowTo_at {n y : Nat} (f : Nat → Int) (v : Int) (h : y < n) : (rowTo n y f v)[y]? = some v := by
  unfold rowTo
  rw [tabRow_at _ h]
  simp
theorem rowTo_set {n y : Nat} (f : Nat → Int) (v v' : Int) : (rowTo n y f v).set y v' = rowTo n y f v' := by
  unfold rowTo
  rw [tabRow_set]
  exact tabRow_ext (fun k _ => by
    by_cases h : k = y
    · subst h; simp
    · simp [h])
theorem rowTo_next (n y : Nat) (f : Nat → Int) : rowTo n y f (f y) = rowTo n (y + 1) f 0 := tabRow_ext (fun k _ => by
  by_cases h1 : k < y
  · rw [if_pos h1, if_pos (by omega)]
  · by_cases h2 : k = y
    · subst h2; rw [if_neg h1, if_pos rfl, if_pos (by omega)]
    · rw [if_neg h1, if_neg h2, if_neg (by omega)]; split <;> rfl)
theorem rowTo_zero (n : Nat) (f : Nat → Int) : rowTo n 0 f 0 = List.replicate n 0 := by
  unfold rowTo tabRow
  apply List.ext_getElem?
  intro j
  by_cases hj : j < n
  · rw [List.getElem?_replicate, if_pos hj]
    simp [hj]
  · rw [List.getElem?_eq_none (by simp; omega), List.getElem?_eq_none (by simp; omega)]
theorem rowTo_all (n : Nat) (f : Nat → Int) : rowTo n n f 0 = tabRow n f := tabRow_ext (fun k hk => by rw [if_pos hk])
/-- A table just made: all rows are nil. -/
theorem OwnRows.made {it t : TypeId} {w : World} {lo hi g n : Nat} (h : w.ownsRow lo t 1 (.slice (some ⟨g, 0, none⟩) n n) n (List.replicate n (.slice none 0 0))) (hg : g < hi) : OwnRows it t w lo hi (some ⟨g, 0, none⟩) n n (List.replicate n []) (List.replicate n (none, 0)) := by
  have hc : tabCells (List.replicate n []) (List.replicate n (none, 0)) = List.replicate n (.slice none 0 0) := by
    unfold tabCells
    rw [List.zip_replicate', List.map_replicate]
    rfl
  have hm : (List.replicate n ((none, 0) : Hd)).map hdBlk = List.replicate n none := by rw [List.map_replicate]; rfl
  refine ⟨by simp, by rw [hc]; exact h, fun k ys d hy hd => ?_, ?_, fun b hb => ?_⟩
  · obtain rfl : ys = [] := (List.mem_replicate.1 (List.mem_of_getElem? hy)).2
    obtain rfl : d = (none, 0) := (List.mem_replicate.1 (List.mem_of_getElem? hd)).2
    exact own_nil _ _ _ _
  · rw [hm]
    unfold Apart
    refine List.pairwise_cons.2 ⟨fun a ha => .inr ?_, ?_⟩
    · rw [(List.mem_replicate.1 ha).2]
      simp [Value.ownBlock]
    · exact List.pairwise_replicate.2 (.inr (.inl rfl))
  · rw [hm] at hb
    rcases List.mem_cons.1 hb with e | e
    · simp [Value.ownBlock] at e
      omega
    · have := (List.mem_replicate.1 e).2
      cases this
theorem intsInfo : (Tryz.prog.info? 62).map (fun i => (i.zero, i.size, i.bytes)) = some (some (.slice none 0 0), 1, 24) := by kernel_rfl
theorem intsE : Elem Tryz.prog 84 62 1 24 (.slice none 0 0) := ⟨Tryz.underlying84, info_parts intsInfo, rfl, by omega⟩
theorem mk_tab (n : Nat) (hn : n ≤ 1000) (w : World) :
    ∃ w0, (Instr.makeSlice 84 (.int .i64 (n : Int)) (.int .i64 (n : Int))).run Tryz.prog w = .ok (.slice (some ⟨w.heap.size, 0, none⟩) n n) w0 ∧ w.grownBy w0 none ∧ OwnRows 3 62 w0 w.heap.size w0.heap.size (some ⟨w.heap.size, 0, none⟩) n n (List.replicate n []) (List.replicate n (none, 0)) := by
  obtain ⟨w0, h1, h2, h3⟩ := mk_row intsE rfl n hn (by omega) w
  exact ⟨w0, h1, h2, OwnRows.made h3 (h3.lt w.heap.size rfl).2⟩
end Go.Proofs.YtboobimpoddacaaGreatDoor
