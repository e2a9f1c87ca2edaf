/-
  The program's rows of a tree, and its root.
-/
import Derived.Test.YtocdgmmmegcnoaaTree
import Derived.Lib.SliceRun
namespace Go.Proofs.Ytocdgmmmegcnoaa
open Go.RowKit
set_option linter.unusedVariables false

/-- The rows above one. -/
def upRows (xs : List Int) : List (List Int) := if xs.length ≤ 1 then [] else upRow xs :: upRows (upRow xs)
termination_by xs.length
decreasing_by rw [upRow_len]; omega
theorem upRows_end {xs : List Int} (h : xs.length ≤ 1) : upRows xs = [] := by rw [upRows.eq_def, if_pos h]
theorem upRows_up {xs : List Int} (h : ¬ xs.length ≤ 1) : upRows xs = upRow xs :: upRows (upRow xs) := by rw [upRows.eq_def, if_neg h]
def allRows (ss : List ByteArray) : List (List Int) := leavesOf ss :: upRows (leavesOf ss)
theorem allRows_last (n : Nat) : ∀ xs : List Int, xs.length = n → (xs :: upRows xs)[(upRows xs).length]? = some (topRow xs) := by
  induction n using Nat.strongRecOn with
  | _ n ih =>
    intro xs h
    by_cases h1 : xs.length ≤ 1
    · rw [upRows_end h1, topRow_end h1]; rfl
    · rw [upRows_up h1, topRow_up h1]
      have := ih (upRow xs).length (by rw [upRow_len]; omega) (upRow xs) rfl
      rw [List.length_cons, List.getElem?_cons_succ]
      exact this
theorem topRow_len (n : Nat) : ∀ xs : List Int, xs.length = n → 0 < n → (topRow xs).length = 1 := by
  induction n using Nat.strongRecOn with
  | _ n ih =>
    intro xs h h0
    by_cases h1 : xs.length ≤ 1
    · rw [topRow_end h1]; omega
    · rw [topRow_up h1]
      exact ih (upRow xs).length (by rw [upRow_len]; omega) (upRow xs) rfl (by rw [upRow_len]; omega)

/-- A slice of ints that lies in another block than R. -/
def RowAt (w : World) (lo : Nat) (R : Option Nat) (v : Value) (ys : List Int) : Prop :=
  ∃ A n c, v = .slice A n c ∧ Ints w lo A n c ys ∧ 0 < n ∧ ∀ p, A = some p → p.block < w.heap.size ∧ R ≠ some p.block
theorem RowAt.ints {w : World} {lo : Nat} {R : Option Nat} {A : Option Addr} {n c : Nat} {ys : List Int} (h : RowAt w lo R (.slice A n c) ys) : Ints w lo A n c ys ∧ 0 < n := by
  obtain ⟨A', n', c', he, h1, h2, _⟩ := h
  injection he with e1 e2 e3
  subst e1 e2 e3
  exact ⟨h1, h2⟩
theorem RowAt.grow {w w' : World} {lo : Nat} {R R' : Option Nat} {v : Value} {ys : List Int} (h : RowAt w lo R v ys) (hg : w.grownBy w' R) (hR : R' = R ∨ ∃ g, R' = some g ∧ w.heap.size ≤ g) : RowAt w' lo R' v ys := by
  obtain ⟨A, n, c, rfl, hI, hn, hp⟩ := h
  refine ⟨A, n, c, rfl, ⟨hI.1, hI.2.1, hI.2.2.1, fun h0 => ?_⟩, hn, fun p e => ?_⟩
  · obtain ⟨b, off, rfl, hl, hb, hc⟩ := hI.2.2.2 h0
    have h2 := (hp _ rfl).2
    exact ⟨b, off, rfl, hl, Nat.lt_of_lt_of_le hb hg.size, fun j u hu => gb_cell hg (hc j u hu) (fun e => h2 e.symm)⟩
  · obtain ⟨h1, h2⟩ := hp p e
    refine ⟨Nat.lt_of_lt_of_le h1 hg.size, ?_⟩
    rcases hR with rfl | ⟨g, rfl, hge⟩
    · exact h2
    · intro e'
      injection e' with e'
      omega
theorem RowAt.keep {w w' : World} {lo : Nat} {R : Option Nat} {v : Value} {ys : List Int} (h : RowAt w lo R v ys) (hg : w.grownBy w' none) : RowAt w' lo R v ys := h.grow (gb_mono hg R) (.inl rfl)
/-- The rows. -/
def RowsAt (w : World) (lo : Nat) (R : Option Nat) (vs : List Value) (yss : List (List Int)) : Prop :=
  vs.length = yss.length ∧ ∀ (k : Nat) (v : Value) (ys : List Int), vs[k]? = some v → yss[k]? = some ys → RowAt w lo R v ys
section
variable {w w' : World} {lo : Nat} {R R' : Option Nat} {vs : List Value} {yss : List (List Int)} {v : Value} {ys : List Int}
theorem RowsAt.grow (h : RowsAt w lo R vs yss) (hg : w.grownBy w' R) (hR : R' = R ∨ ∃ g, R' = some g ∧ w.heap.size ≤ g) : RowsAt w' lo R' vs yss :=
  ⟨h.1, fun k v ys h1 h2 => (h.2 k v ys h1 h2).grow hg hR⟩
theorem RowsAt.keep (h : RowsAt w lo R vs yss) (hg : w.grownBy w' none) : RowsAt w' lo R vs yss := h.grow (gb_mono hg R) (.inl rfl)
theorem RowsAt.push (h : RowsAt w lo R vs yss) (hv : RowAt w lo R v ys) : RowsAt w lo R (vs ++ [v]) (yss ++ [ys]) := by
  refine ⟨by simp [h.1], fun k u us h1 h2 => ?_⟩
  by_cases hk : k < vs.length
  · rw [List.getElem?_append_left hk] at h1
    rw [List.getElem?_append_left (by rw [← h.1]; exact hk)] at h2
    exact h.2 k u us h1 h2
  · rw [List.getElem?_append_right (by omega)] at h1
    rw [List.getElem?_append_right (by rw [← h.1]; omega)] at h2
    have h3 : k - vs.length = 0 := by
      have := (List.getElem?_eq_some_iff.1 h1).1
      simpa using this
    rw [h3] at h1
    rw [← h.1, h3] at h2
    injection h1 with h1
    injection h2 with h2
    subst h1 h2
    exact hv
theorem RowsAt.one (hv : RowAt w lo R v ys) : RowsAt w lo R [v] [ys] := (show RowsAt w lo R [] [] from ⟨rfl, fun k v ys h1 => by simp at h1⟩).push hv
end
/-- A row of the call's own lies apart from any block made later, and from any block that is not its own. -/
theorem RowAt.of_own {w : World} {lo m : Nat} {e : TypeId} {R : Option Nat} {A : Option Addr} {c : Nat} {ys : List Int} (h : w.ownsRow lo e 1 (.slice A m c) m (ys.map (Value.int .i64))) (hm : 0 < m) (hR : ∀ g, R = some g → g < lo ∨ w.heap.size ≤ g) : RowAt w lo R (.slice A m c) ys := by
  refine ⟨A, m, c, rfl, Sl.own h, hm, fun p e => ?_⟩
  obtain ⟨b, off, rfl, hl, hb, _⟩ := (Sl.own h).2.2.2 hm
  injection e with e
  subst e
  refine ⟨hb, fun e => ?_⟩
  have := hR _ e
  simp only at this hl hb
  omega
theorem RowAt.lo {w : World} {lo lo' : Nat} {R : Option Nat} {v : Value} {ys : List Int} (h : RowAt w lo R v ys) (hl : lo' ≤ lo) : RowAt w lo' R v ys := by
  obtain ⟨A, n, c, rfl, hI, hn, hp⟩ := h
  exact ⟨A, n, c, rfl, hI.mono hl, hn, hp⟩

theorem intsInfo : (Try.prog.info? 32).map (fun i => (i.zero, i.size, i.bytes)) = some (some (.slice none 0 0), 1, 24) := by kernel_rfl
theorem intsE : Elem Try.prog 61 32 1 24 (.slice none 0 0) := ⟨Try.underlying61, info_parts intsInfo, rfl, by omega⟩

theorem leafSum_bad {s : ByteArray} (k : Int) (h : okText s = false) : leafSum k s = -1 := by
  have h : ballotOK (ballotOf s) 5 = false := h
  rw [leafSum, leafOK, h]
  rfl
theorem leafSum_good {s : ByteArray} {k : Int} (h : okText s = true) (h0 : 0 ≤ k) (h7 : k ≤ 7) : 0 ≤ leafSum k s := by
  have h : ballotOK (ballotOf s) 5 = true := h
  rw [leafSum, leafOK, h, if_pos (by simp [inB]; omega)]
  exact (leafTo_bd (7 + k) s (by omega) (by omega) _ (Nat.le_refl _)).1

attribute [local go_sem ↓] Go.wp_at_zero Go.wp_at_succ
set_option maxHeartbeats 2000000 in
theorem c_treeRows (lo : Nat) (S : Option Addr) (n cap : Nat) (ss : List ByteArray) (w0 : World) (h : Strs w0 lo S n cap ss) (hs : ∀ s ∈ ss, s.size ≤ 2000000) :
    Calls Try.prog 51 #[.slice S n cap] w0 fun e w' => w0.grownBy w' none ∧ ((treeOK ss = false ∧ e = .returned (.slice none 0 0)) ∨
      (treeOK ss = true ∧ ∃ D R c vs, e = .returned (.slice (some D) R c) ∧ w'.ownsRow w0.heap.size 32 1 (.slice (some D) R c) R vs ∧ RowsAt w' w0.heap.size (some D.block) vs (allRows ss))) := by
  have hlc := h.le
  have hcm := h.max
  have hxl := Lib.hid h.len
  have Hs := Lib.hid hs
  clear hs
  by_cases hn : 1 ≤ n ∧ n ≤ 8
  case neg =>
    have hbad : treeOK ss = false := by
      have : inB ss.length 1 8 = false := by simp [inB, hxl.out]; omega
      rw [treeOK, this]; simp
    have Hb := Lib.hid hbad
    clear hbad
    by_cases hn0 : n < 1
    · go_enter Try.func51, Try.ntmps51
      go_wp2
      go_ret
      exact ⟨gb_refl _ _, .inl ⟨Hb.out, rfl⟩⟩
    · have hn9 : 8 < n := by omega
      go_enter Try.func51, Try.ntmps51
      go_wp2
      go_ret
      exact ⟨gb_refl _ _, .inl ⟨Hb.out, rfl⟩⟩
  obtain ⟨hn1, hn8⟩ := hn
  have hn1' : ¬ n < 1 := by omega
  have hn8' : ¬ 8 < n := by omega
  go_enter Try.func51, Try.ntmps51
  go_wp2
  go_loopw [3, 20] (fun v i wr => ∃ (k : Nat) (B : Option Addr) (c : Nat), k ≤ n ∧ i = .int .i64 k ∧ v = .slice B k c ∧ wr.ownsRow w0.heap.size 3 1 (.slice B k c) k (((leavesOf ss).take k).map (Value.int .i64)) ∧ Below w0.heap.size w0 wr ∧
    Hid ((ss.take k).all okText = true)) (fun _ i _ => n - (intOf i).toNat)
  case atStart => exact ⟨0, _, _, Nat.zero_le _, rfl, rfl, own_nil _ _ _ _, Below.refl _ _, Lib.hid rfl⟩
  case round =>
    obtain ⟨k, B, c, hk, rfl, rfl, hown, hb, hpre⟩ := hrel
    by_cases hlt : k < n
    · obtain ⟨b, off, z, rfl, hz, hcell⟩ := Strs.at_ (sl_below h hb (Nat.le_refl _)) hlt
      have hzs := Hs.out z (List.mem_of_getElem? hz.out)
      go_wp2_with fail
      refine (c_impl_LeafSum _ _ _ hzs).mono ?_
      rintro e w1 ⟨rfl, hg1⟩
      have hown1 := own_below hown hg1
      have hb1 := below_gbn hb hg1 hb.size
      have hbs1 := hb1.size
      by_cases hok : okText z = true
      · have hlv := Lib.hid (leavesOf_at hz.out)
        have hge := leafSum_good (k := (k : Int)) hok (by omega) (by omega)
        have Hok := Lib.hid hok
        clear hok
        obtain ⟨L, hL⟩ : ∃ L, leafSum (k : Int) z = L := ⟨_, rfl⟩
        rw [hL] at hge hlv
        simp only [hL]
        clear hL
        have hge' : ¬ L < 0 := by omega
        go_wp2_with (at_builtin; refine wpList_app intE rfl _ _ rfl w0.heap.size k _ _ rfl hown1 [_] rfl rfl (by simp [Value.oneCell']) (by omega) (by omega) hbs1 ?_; intro B' c' w3 hown3 hb3 hg3 hat3)
        go_roundw
        case rel => exact ⟨k + 1, B', c', by omega, by go_num, rfl, by rw [take_succ_of hlv.out, List.map_append]; exact hown3, hb1.trans hb3, Lib.hid (by rw [take_succ_of hz.out, List.all_append, hpre.out]; simp [Hok.out])⟩
        case measure => simp [intOf]; omega
      · have hok' : okText z = false := by simpa using hok
        clear hok
        rw [leafSum_bad (k : Int) hok']
        have Hok := Lib.hid hok'
        clear hok'
        go_wp2
        go_ret
        refine ⟨gb_of_below hb1 none, .inl ⟨?_, rfl⟩⟩
        have : ss.all okText = false := by
          rw [List.all_eq_false]
          exact ⟨z, List.mem_of_getElem? hz.out, by simp [Hok.out]⟩
        rw [treeOK, this]
        rfl
    · obtain rfl : k = n := by omega
      rw [List.take_of_length_le (by rw [leavesOf_len, hxl.out]; exact Nat.le_refl _)] at hown
      have Hok : Hid (treeOK ss = true) := Lib.hid (by
        have hp := hpre.out
        rw [List.take_of_length_le (by rw [hxl.out]; exact Nat.le_refl _)] at hp
        rw [treeOK, hp, hxl.out]
        simp [inB]; omega)
      clear hpre
      have hbs := hb.size
      go_wp2
      go_loopw [3, 7] (fun v3 v7 w => ∃ (m R : Nat) (A : Option Addr) (c : Nat) (D : Addr) (d : Nat) (ys : List Int) (vs : List Value) (yss : List (List Int)), v3 = .slice A m c ∧ v7 = .slice (some D) R d ∧
        Ints w w0.heap.size A m c ys ∧ w.ownsRow w0.heap.size 32 1 (.slice (some D) R d) R vs ∧ RowsAt w w0.heap.size (some D.block) vs yss ∧ Below w0.heap.size w0 w ∧ 1 ≤ m ∧ R + m ≤ 10 ∧ Hid (yss ++ upRows ys = allRows ss)) (fun v3 v7 _ => match v3 with | .slice _ m _ => m | _ => 0)
      case atStart =>
        have hD := own_of_blk (lo := w0.heap.size) (n := 1) (size := 1) (Blk.new wr 32 #[.slice B k c]) rfl (by omega) hbs
        have hrow := (RowAt.of_own (R := some wr.heap.size) hown (by omega) (by intro g e; injection e with e; exact .inr (by omega))).grow (w' := wr.alloc (.cells #[.slice B k c] 32)) (R' := some wr.heap.size) (gb_alloc (gb_refl _ _) _) (.inl rfl)
        exact ⟨k, 1, B, c, _, 1, leavesOf ss, _, _, rfl, rfl, (Sl.keep0 (Sl.own hown) (gb_alloc (gb_refl _ _) _)), hD, RowsAt.one hrow, hb.alloc hbs _, by omega, by omega, Lib.hid rfl⟩
      case round =>
        obtain ⟨m, R, A, c, D, d, ys, vs, yss, rfl, rfl, hI, hD, hrows, hb, hm1, hmR, hinv⟩ := hrel
        clear hown
        rename World => w
        have hml := Lib.hid (Ints.len hI)
        have hbs2 := hb.size
        by_cases h1 : 1 < m
        · have Hup := Lib.hid (upRows_up (xs := ys) (by rw [hml.out]; omega))
          have h1' : (1 : Int) < (m : Int) := by omega
          go_wp2
          go_loopw [8, 9] (fun v i wr => ∃ (k j : Nat) (B : Option Addr) (c : Nat) (zs : List Int), k ≤ m + 1 ∧ j ≤ k ∧ i = .int .i64 k ∧ v = .slice B j c ∧ wr.ownsRow w.heap.size 3 1 (.slice B j c) j (zs.map (Value.int .i64)) ∧ Below w.heap.size w wr ∧
            Hid (zs ++ upRow (ys.drop k) = upRow ys)) (fun _ i _ => (m + 1) - (intOf i).toNat)
          case atStart => exact ⟨0, 0, _, _, [], Nat.zero_le _, Nat.le_refl _, rfl, rfl, own_nil _ _ _ _, Below.refl _ _, Lib.hid rfl⟩
          case round =>
            obtain ⟨k, j, B, c', zs, hk, hjk, rfl, rfl, hown, hbi, hup⟩ := hrel
            have hbs := hbi.size
            have hI' : Ints _ _ A m c ys := sl_below hI hbi (Nat.le_refl _)
            by_cases hlt : k < m
            · obtain ⟨b, off, z, rfl, hz, hcell0⟩ := hI.at_ hlt
              have hbl : b < w.heap.size := World.block_lt_of_cell? _ _ hcell0
              have hcell := (hbi.cell (p := ⟨b, off + k, none⟩) hbl).trans hcell0
              clear hcell0
              by_cases hlt2 : k + 1 < m
              · obtain ⟨b', off', z', he, hz', hcell'⟩ := hI'.at_ hlt2
                obtain ⟨rfl, rfl⟩ : b' = b ∧ off' = off := by injection he with he; injection he with h1 h2; exact ⟨h1.symm, h2.symm⟩
                have hk0 : (0 : Int) ≤ (k : Int) := by omega
                have hk1 : (k : Int) < (m : Int) := by omega
                have hk2 : (0 : Int) ≤ (k : Int) + 1 := by omega
                have hk3 : (k : Int) + 1 < (m : Int) := by omega
                have w1 : IntKind.i64.wrap ((k : Int) + 1) = (k : Int) + 1 := IntWalk.i64_in _ (by omega)
                have w2 : ((k : Int) + 1).toNat = k + 1 := by omega
                go_wp2_with fail
                go_region_held3 (fun w' => w'.cell? ⟨b', off' + k, none⟩ = some (.int .i64 z) ∧ w'.cell? ⟨b', off' + (k + 1), none⟩ = some (.int .i64 z')) (first | (exact ⟨hcell, hcell'⟩) | (exact ⟨((below_alloc_drew hb3 hbs).cell hbl).trans hcell, ((below_alloc_drew hb3 hbs).cell hbl).trans hcell'⟩) | go_keep) (first | (go_at_call 17; refine (c_impl_NodeSum _ _ _).mono ?_; rintro e w' ⟨rfl, rfl⟩) | (refine step_appB intE (by rfl) _ _ (by rfl) w.heap.size j _ _ (by rfl) (own_drew (hown.alloc _)) wr.heap.size [_] (by rfl) (blk_drew (Blk.new _ _ _)) (by rfl) (by simp [Value.oneCell']) (by omega) (by omega) (le_alloc_drew hbs) ?_; intro B' c' w3 hown3 hb3 hg3 hat3))
                have hb4 := hbi.trans (below_alloc_drew hb3 hbs)
                go_wp2
                go_roundw
                case rel => exact ⟨k + 2, j + 1, B', c', zs ++ [nodeSum z z'], by omega, by omega, by go_num, rfl, by rw [List.map_append]; exact hown3, hb4, Lib.hid (by
                  have hi := hup.out
                  rw [upRow_two hz.out hz'.out] at hi
                  rw [List.append_assoc]
                  exact hi)⟩
                case measure => simp [intOf]; omega
              · go_wp2_with (at_builtin; refine wpList_app intE rfl _ _ rfl w.heap.size j _ _ rfl hown [_] rfl rfl (by simp [Value.oneCell']) (by omega) (by omega) hbs ?_; intro B' c' w3 hown3 hb3 hg3 hat3)
                go_roundw
                case rel => exact ⟨k + 2, j + 1, B', c', zs ++ [z], by omega, by omega, by go_num, rfl, by rw [List.map_append]; exact hown3, hbi.trans hb3, Lib.hid (by
                  have hi := hup.out
                  rw [upRow_one hz.out (by rw [hml.out]; omega)] at hi
                  rw [List.drop_eq_nil_of_le (by rw [hml.out]; omega)]
                  simpa [upRow] using hi)⟩
                case measure => simp [intOf]; omega
            · have hfin : zs = upRow ys := by
                have hi := hup.out
                rw [List.drop_eq_nil_of_le (by rw [hml.out]; omega)] at hi
                simpa [upRow] using hi
              subst hfin
              have hj : j = (m + 1) / 2 := by rw [← own_len hown, upRow_len, hml.out]
              have Hj := Lib.hid hj
              have hja : j < m := by omega
              have hjb : 1 ≤ j := by omega
              clear hj hup
              have hgi := gb_of_below hbi none
              have hD1 := own_below hD hgi
              have hDl := hD.lt D.block rfl
              have hrow : RowAt wr w0.heap.size (some D.block) (.slice B j c') (upRow ys) := (RowAt.of_own hown hjb (by intro g e; injection e with e; exact .inl (by omega))).lo hbs2
              have hrows1 := (hrows.keep hgi).push hrow
              have hb1 := hb.trans (hbi.mono hbs2)
              have hbs3 := hb1.size
              go_wp2_with (at_builtin; refine wpList_app intsE rfl _ _ rfl w0.heap.size R _ _ rfl hD1 [_] rfl rfl (by simp [Value.oneCell']) (by omega) (by omega) hbs3 ?_; intro D' d' w3 hD3 hb3 hg3 hat3)
              obtain ⟨g, off, rfl, hg0, hg1, _⟩ := (Sl.own hD3).2.2.2 (by omega)
              have hrows3 := hrows1.grow (R' := some g) hg3 hat3
              have hrow3 := hrow.grow (R' := some g) hg3 hat3
              go_roundw
              case rel => exact ⟨j, R + 1, B, c', _, d', upRow ys, _, _, rfl, rfl, hrow3.ints.1, hD3, hrows3, hb1.trans hb3, hjb, by omega, Lib.hid (by
                have hi := hinv.out
                rw [Hup.out] at hi
                rw [List.append_assoc]
                exact hi)⟩
              case measure => exact hja
        · have hup : upRows ys = [] := upRows_end (by rw [hml.out]; omega)
          have hi := hinv.out
          rw [hup, List.append_nil] at hi
          subst hi
          clear hinv hup
          go_wp2
          go_ret
          exact ⟨gb_of_below hb none, .inr ⟨Hok.out, D, R, d, vs, rfl, hD, hrows⟩⟩
end Go.Proofs.Ytocdgmmmegcnoaa
