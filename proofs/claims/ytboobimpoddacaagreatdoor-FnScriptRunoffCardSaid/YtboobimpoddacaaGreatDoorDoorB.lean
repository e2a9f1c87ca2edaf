/-
  strings.Builder's copyCheck and WriteString at this program: the translator leaves copyCheck's panic out, so that the kit's own laying does not fit: after the kit's proofs.
  A strings.Builder of the call's own that holds a text: writing, reading, what is kept.
  The text of a contest by the program.
-/
import Derived.Test.YtboobimpoddacaaGreatDoorShelf
import Derived.Test.YtboobimpoddacaaGreatDoorPackA
import Derived.Lib.OthersKept
import Derived.Lib.FrozenHead2
import Derived.Lib.Builder
import Derived.Test.YtboobimpoddacaaGreatDoorDoorA
import Derived.Test.YtboobimpoddacaaGreatDoorRnds
import Derived.Test.YtboobimpoddacaaGreatDoorPackB
namespace Go.Proofs.YtboobimpoddacaaGreatDoor
open Go.RowKit
set_option linter.unusedVariables false

theorem bldSize : (Tryz.prog.info? 37).map (·.size) = some 2 := by kernel_rfl
theorem bldLies : liesAt Tryz.prog Tryz.prog.depth 37 (2 / Tryz.prog.cellsOf 37) 0 37 1 = true := by kernel_rfl
set_option maxRecDepth 100000 in
theorem c_copyCheck_used (b : Nat) (w : World) (h0 : w.cell? ⟨b, 0, none⟩ = some (.pointer (some ⟨b, 0, none⟩))) :
    Calls Tryz.prog 33 #[.pointer (some ⟨b, 0, none⟩)] w fun e w' => e = .returned (.tuple #[]) ∧ w' = w := by
  obtain ⟨j, hj, _⟩ := Option.map_eq_some_iff.1 bldSize
  go_enter Tryz.func33, Tryz.ntmps33
  go_wp2
  rw [Lib.run_neq_ptr_same w _ Tryz.underlying35 hj]
  go_wp2
  go_end0
  exact ⟨rfl, rfl⟩
set_option maxRecDepth 100000 in
theorem c_copyCheck_fresh (b : Nat) (w : World) (h0 : w.cell? ⟨b, 0, none⟩ = some (.pointer none)) (hsh : w.shape? b = some (37, 2)) (hfz : w.frozen? ⟨b, 0, none⟩ = false) :
    Calls Tryz.prog 33 #[.pointer (some ⟨b, 0, none⟩)] w fun e w' => e = .returned (.tuple #[]) ∧ w' = w.setCell ⟨b, 0, none⟩ (.pointer (some ⟨b, 0, none⟩)) := by
  obtain ⟨j, hj, hjs⟩ := Option.map_eq_some_iff.1 bldSize
  go_enter Tryz.func33, Tryz.ntmps33
  go_wp2
  rw [Lib.run_to_unsafe w ⟨b, 0, none⟩ Tryz.underlying35 Tryz.underlying69 hj (by rw [hjs]; decide) hsh (Nat.zero_lt_succ 1)]
  simp only [Result.andThen]
  rw [Oper.upon_value]
  go_wp2
  rw [run_callFunc_extern Tryz.func49 (by kernel_rfl) (by kernel_rfl) (by kernel_rfl) (e := Extern.AbiNoEscape.same) (by kernel_rfl)]
  rw [Lib.run_noEscape]
  simp only [Result.andThen]
  rw [Oper.upon_value]
  go_wp2
  rw [Lib.run_from_unsafe w ⟨b, 0, none⟩ Tryz.underlying69 Tryz.underlying35 hj hsh bldLies]
  simp only [Result.andThen]
  rw [Oper.upon_value]
  go_wp2
  go_end0
  exact ⟨rfl, rfl⟩
theorem c_copyCheck (B b : Nat) (bs : List Value) (w : World) (h : Lib.IsBuilderF 37 5 B b bs w) :
    Calls Tryz.prog 33 #[.pointer (some ⟨b, 0, none⟩)] w fun e w' => e = .returned (.tuple #[]) ∧ (Lib.BuilderAtF 37 5 B b (.pointer (some ⟨b, 0, none⟩)) bs w' ∧ Below B w w' ∧ Lib.OthersKept 5 (some b) w w') := by
  rcases h with h | h
  · refine (c_copyCheck_fresh b w h.cell0 h.shape h.frozen0).mono ?_
    rintro e w' ⟨rfl, rfl⟩
    exact ⟨rfl, h.used _, (Below.refl B w).setCell (p := ⟨b, 0, none⟩) h.1 _, (Lib.OthersKept.refl _ _ w).setCell ⟨b, 0, none⟩ rfl _⟩
  · refine (c_copyCheck_used b w h.cell0).mono ?_
    rintro e w' ⟨rfl, rfl⟩
    exact ⟨rfl, h, Below.refl B _, Lib.OthersKept.refl _ _ _⟩
set_option maxHeartbeats 2000000 in
set_option maxRecDepth 100000 in
theorem c_WriteString (B b : Nat) (bs : List Value) (s : ByteArray) (w : World) (h : Lib.IsBuilderF 37 5 B b bs w) (hlen : bs.length + s.size ≤ 140737488355328) (hBw : B ≤ w.heap.size) :
    Calls Tryz.prog 22 #[.pointer (some ⟨b, 0, none⟩), .string s] w fun e w' => e = .returned (.tuple #[.int .i64 s.size, .nilIface]) ∧ (Lib.BuilderAtF 37 5 B b (.pointer (some ⟨b, 0, none⟩)) (bs ++ Lib.strCells s) w' ∧ Below B w w' ∧ Lib.OthersKept 5 (some b) w w') := by
  obtain ⟨i0, hi, hz⟩ := Option.map_eq_some_iff.1 (show (Tryz.prog.info? 5).map (fun i => (i.zero, i.size, i.bytes)) = some (some (.int .u8 0), 1, 1) by kernel_rfl)
  obtain ⟨hz0, hz1, hz2⟩ : i0.zero = some (.int .u8 0) ∧ i0.size = 1 ∧ i0.bytes = 1 := by simpa using hz
  go_enter Tryz.func22, Tryz.ntmps22
  go_wp2_with (go_at_call 33; refine (c_copyCheck B b bs _ h).mono ?_)
  rintro e w1 ⟨rfl, h1, hb1, hk1⟩
  obtain ⟨hB, v, hbk, hown, hne⟩ := h1
  have c0 : w1.cell? ⟨b, 0, none⟩ = some (.pointer (some ⟨b, 0, none⟩)) := by rw [Lib.cell_of_heap hbk]; rfl
  have c1 : w1.cell? ⟨b, 1, none⟩ = some v := by rw [Lib.cell_of_heap hbk]; rfl
  go_wp2_with (at_builtin; refine Lib.wpList_append_own_stringF _ rfl _ _ 22 9 rfl B 5 i0 Tryz.underlying22 Tryz.underlying9 hi hz0 hz1 hz2 _ _ _ rfl hown s rfl ?c3 ?c4 ?c5 ?_)
  case c3 => unfold maxLen; omega
  case c4 => omega
  case c5 => have := hb1.size; omega
  intro v' w2 hown' hgrow _
  have hlt : b < w1.heap.size := by
    rcases Nat.lt_or_ge b w1.heap.size with h' | h'
    · exact h'
    · simp [Array.getElem?_eq_none h'] at hbk
  have hb2 : w2.heap[b]? = some (.cells #[.pointer (some ⟨b, 0, none⟩), v] 37 (0, 0)) := by
    rw [hgrow.block b hlt (fun e => hne e.symm)]
    exact hbk
  have d0 : w2.cell? ⟨b, 0, none⟩ = some (.pointer (some ⟨b, 0, none⟩)) := by rw [Lib.cell_of_heap hb2]; rfl
  have d1 : w2.cell? ⟨b, 1, none⟩ = some v := by rw [Lib.cell_of_heap hb2]; rfl
  have f1 : w2.frozen? ⟨b, 1, none⟩ = false := Lib.frozen_of_heap hb2 1
  obtain ⟨ao, n', cap, rfl⟩ : ∃ ao n' cap, v' = .slice ao n' cap := by
    rcases hown'.2 with ⟨hv, _⟩ | ⟨g, cap, cur, fz, hv, _⟩
    · exact ⟨_, _, _, hv⟩
    · exact ⟨_, _, _, hv⟩
  go_wp2
  go_ret2
  refine ⟨rfl, ?_, ?_, (hk1.grown hgrow (Lib.ownsRowF_kind hown)).setCell ⟨b, 1, none⟩ rfl _⟩
  · exact Lib.BuilderAtF.put (T := 37) (e := 5) hB hb2 (bs' := bs ++ Lib.strCells s) (by simpa [Lib.strCells_length] using hown') (by decide)
  · exact (hb1.grown hgrow (by have := hb1.size; omega) (fun k hk => (hown.lt k hk).1)).setCell (p := ⟨b, 1, none⟩) hB _
end Go.Proofs.YtboobimpoddacaaGreatDoor

namespace Go.Proofs.YtboobimpoddacaaGreatDoor
open Go.RowKit
set_option linter.unusedVariables false

theorem strCells_app (s t : ByteArray) : Lib.strCells s ++ Lib.strCells t = Lib.strCells (s ++ t) := by
  unfold Lib.strCells
  rw [ByteArray.data_append, Array.toList_append, List.map_append]
/-- The builder in block b holds the text s; nothing below B is its own. -/
structure Bdr (w : World) (B b : Nat) (s : ByteArray) : Prop where
  is : Lib.IsBuilderF 37 5 B b (Lib.strCells s) w
  lo : B ≤ w.heap.size
theorem bdrAt_grown {w w' : World} {B b : Nat} {p : Value} {bs : List Value} (h : Lib.BuilderAtF 37 5 B b p bs w) (hg : w.grownBy w' none) : Lib.BuilderAtF 37 5 B b p bs w' := by
  have hlt := h.lt
  obtain ⟨hB, v, hb, hown, hne⟩ := h
  exact ⟨hB, v, by rw [hg.block b hlt (by simp)]; exact hb, hown.kept hg (by cases v.ownBlock with | none => exact .inl rfl | some g => exact .inr (by simp)), hne⟩
theorem Bdr.grown {w w' : World} {B b : Nat} {s : ByteArray} (h : Bdr w B b s) (hg : w.grownBy w' none) : Bdr w' B b s :=
  ⟨h.is.elim (fun x => .inl (bdrAt_grown x hg)) (fun x => .inr (bdrAt_grown x hg)), Nat.le_trans h.lo hg.size⟩
theorem Bdr.new (w : World) : Bdr (w.alloc (.cells #[.pointer none, .slice none 0 0] 37)) w.heap.size w.heap.size ⟨#[]⟩ := by
  have hb := Blk.new w 37 #[.pointer none, .slice none 0 0]
  exact ⟨.inl ⟨Nat.le_refl _, .slice none 0 0, hb, World.ownsRowF_nil _ _ _ _, by simp [Value.ownBlock]⟩, Nat.le_of_lt hb.lt⟩
theorem Bdr.blk {w : World} {B b : Nat} {s : ByteArray} (h : Bdr w B b s) : ∃ c fz, w.heap[b]? = some (.cells c 37 fz) := by
  rcases h.is with ⟨_, v, hb, _⟩ | ⟨_, v, hb, _⟩
  · exact ⟨_, _, hb⟩
  · exact ⟨_, _, hb⟩
/-- What a write to the builder keeps. -/
structure BKeep (w w' : World) (B b : Nat) : Prop where
  below : Below B w w'
  others : Lib.OthersKept 5 (some b) w w'
theorem BKeep.refl (w : World) (B b : Nat) : BKeep w w B b := ⟨Below.refl _ _, Lib.OthersKept.refl _ _ _⟩
theorem BKeep.trans {u v w : World} {B b : Nat} (h : BKeep u v B b) (k : BKeep v w B b) : BKeep u w B b := ⟨h.below.trans k.below, h.others.trans k.others⟩
theorem BKeep.grown {u v w : World} {B b : Nat} (h : BKeep u v B b) (hB : B ≤ v.heap.size) (hg : v.grownBy w none) : BKeep u w B b :=
  ⟨h.below.grown hg hB (fun k e => by cases e), h.others.grown hg (fun g e => by cases e)⟩
/-- What was there below the builder. -/
theorem BKeep.old {u v w : World} {b : Nat} (h : u.grownBy v none) (k : BKeep v w u.heap.size b) : u.grownBy w none := gb_of_below ((gb_below h).trans k.below) _
theorem c_write (B b : Nat) (s t u : ByteArray) (w : World) (h : Bdr w B b s) (hu : s ++ t = u) (hsz : u.size ≤ 1000000000) :
    Calls Tryz.prog 22 #[.pointer (some ⟨b, 0, none⟩), .string t] w fun e w' => e = .returned (.tuple #[.int .i64 t.size, .nilIface]) ∧ Bdr w' B b u ∧ BKeep w w' B b := by
  rw [← hu, ByteArray.size_append] at hsz
  refine (c_WriteString B b (Lib.strCells s) t w h.is (by rw [Lib.strCells_length]; omega) h.lo).mono ?_
  rintro e w' ⟨rfl, h1, h2, h3⟩
  exact ⟨rfl, ⟨.inr (by rw [← hu, ← strCells_app]; exact h1), Nat.le_trans h.lo h2.size⟩, h2, h3⟩
theorem c_read (B b : Nat) (s : ByteArray) (w : World) (h : Bdr w B b s) :
    Calls Tryz.prog 26 #[.pointer (some ⟨b, 0, none⟩)] w fun e w' => e = .returned (.string s) ∧ BKeep w w' B b := by
  refine (Tryz.Builder_String_any_k B b s.data.toList w h.is h.lo).mono ?_
  rintro e w' ⟨rfl, _, h2, h3⟩
  exact ⟨rfl, h2, h3⟩
section
variable {w w' : World} {B b : Nat} {s : ByteArray}
theorem own_bkeep {lo e size n : Nat} {v : Value} {xs : List Value} (h : w.ownsRow lo e size v n xs) (hB : Bdr w B b s) (hk : BKeep w w' B b) (h1 : e ≠ 5) (h2 : e ≠ 37) : w'.ownsRow lo e size v n xs := by
  obtain ⟨c, fz, hb⟩ := hB.blk
  refine ⟨h.1, ?_⟩
  rcases h.2 with hn | ⟨g, cap, cur, hv, hl, hg, rest⟩
  · exact .inl hn
  · refine .inr ⟨g, cap, cur, hv, hl, ?_, rest⟩
    refine hk.others g _ hg (fun e' => ?_) (fun c' fz' e' => ?_)
    · injection e' with e'
      rw [e', hb] at hg
      injection hg with hg
      injection hg with _ hg _
      exact h2 hg.symm
    · injection e' with _ e' _
      exact h1 e'
theorem OwnRnds.bkeep {lo n cap : Nat} {A : Option Addr} {rs : List Rnd} {hs : List Hd} (h : OwnRnds w lo A n cap rs hs) (hB : Bdr w B b s) (hk : BKeep w w' B b) : OwnRnds w' lo A n cap rs hs :=
  ⟨h.len, own_bkeep h.row hB hk (by decide) (by decide), fun k r d hr hd => ⟨own_bkeep (h.cnts k r d hr hd).1 hB hk (by decide) (by decide), (h.cnts k r d hr hd).2⟩⟩
theorem OwnRows.bkeep {lo hi n cap : Nat} {A : Option Addr} {yss : List Row} {hs : List Hd} (h : OwnRows 3 62 w lo hi A n cap yss hs) (hB : Bdr w B b s) (hk : BKeep w w' B b) : OwnRows 3 62 w' lo hi A n cap yss hs :=
  ⟨h.len, own_bkeep h.row hB hk (by decide) (by decide), fun k x y hx hy => own_bkeep (h.rows k x y hx hy) hB hk (by decide) (by decide), h.apart, h.bnd⟩
end
end Go.Proofs.YtboobimpoddacaaGreatDoor

namespace Go.Proofs.YtboobimpoddacaaGreatDoor
open Go.RowKit
set_option linter.unusedVariables false

theorem outp {o : Int} {t r : ByteArray} (h : 0 ≤ o) : t ++ r ++ (⟨#[32, 111, 117, 116, 32]⟩ ++ ballotText [o]) = t ++ (r ++ outText o) := by
  unfold outText
  rw [if_pos h]
  simp only [ByteArray.append_assoc]

set_option maxHeartbeats 8000000 in
set_option maxRecDepth 100000 in
theorem c_impl_ContestText (lo : Nat) (A0 : Option Addr) (np cap : Nat) (ps : List Pl) (n m s : Int) (w : World) (h : Piles w lo A0 np cap ps) (hs : ∀ p ∈ ps, p.1.size ≤ 2000000) (ht : Tab w) :
    Calls Tryz.prog 37 #[.slice A0 np cap, .int .i64 n, .int .i64 m, .int .i64 s] w fun e w' => e = .returned (.string (conText ps n m s)) ∧ w.grownBy w' none := by
  have Hs := Lib.hid hs
  have HT := Lib.hid ht
  clear hs ht
  by_cases hok : conOK ps n m s = true
  · have hh := conOK_iff.1 hok
    have hN := (fit_many hh.1).2.2
    obtain ⟨N, rfl⟩ : ∃ N : Nat, n = (N : Int) := ⟨n.toNat, by omega⟩
    obtain ⟨S, rfl⟩ : ∃ S : Nat, s = (S : Int) := ⟨s.toNat, by omega⟩
    have hN1 : 1 ≤ N := by omega
    have hN5 : N ≤ 5 := by omega
    have hS9 : S ≤ 999 := by omega
    have hwe := conOK_yes hh.1 hh.2.1 hS9
    have hL : lotsOK (N : Int) (S : Int) = true := (lotsOK_iff _ _).2 ⟨by omega, by omega⟩
    have hres : lotsRes (N : Int) (S : Int) = lotsOf N S := by unfold lotsRes; rw [hL, if_pos rfl, Int.toNat_natCast, Int.toNat_natCast]
    have hcl : Hid (∀ x : World, _) := Lib.hid (fun x => c_impl_LotsOf (N : Int) (S : Int) x)
    rw [hL, hres] at hcl
    have Hp := Lib.hid (lotsOf_perm N S)
    have hll := lotsOf_len N S
    have Hll := Lib.hid hll
    have hct := conText_yes hok
    rw [Int.toNat_natCast, Int.toNat_natCast] at hct
    have hms := midText_size m hh.1 hll
    have hrng := cWin_range hok
    obtain ⟨V, hV⟩ : ∃ V, cWin ps (N : Int) m (S : Int) = V := ⟨_, rfl⟩
    have HV := Lib.hid hV
    rw [hV] at hct hrng
    have hV0 : ¬ V < 0 := by omega
    have hV0b : 0 ≤ V := hrng.1
    obtain ⟨lots, hlots⟩ : ∃ l, lotsOf N S = l := ⟨_, rfl⟩
    rw [hlots] at hcl Hp Hll hct hms hll
    have hrm := Lib.hid (rounds_mem hh.1 hll)
    have hrl := rounds_len (ps := ps) hll
    have hcr := Lib.hid (cnt_row hh.1)
    have hbf := Lib.hid (fun z hz => fit_bounds hh.1 (List.replicate N false) z hz)
    have hpt : Hid (pTotal ps = sumPl ps) := Lib.hid (by
      have hpo : pilesOK ps = true := by
        have hf := hh.1
        unfold fitOK at hf
        simp only [Bool.and_eq_true] at hf
        exact hf.1.2
      unfold pTotal
      rw [hpo, if_pos rfl])
    have hsum := sum_bounds hh.1
    obtain ⟨Z, hZ⟩ : ∃ Z, sumPl ps = Z := ⟨_, rfl⟩
    rw [hZ] at hpt hsum
    have hzs : ∀ z ∈ [Z], 0 ≤ z ∧ z ≤ 1000000 := fun z hz => by rw [List.mem_singleton] at hz; omega
    have hrs := rowText_size hzs
    have Hzs := Lib.hid hzs
    unfold headText endText at hct
    rw [hZ] at hct
    obtain ⟨R0, hR0⟩ : ∃ R, rowText [Z] = R := ⟨_, rfl⟩
    have HR0 := Lib.hid hR0
    rw [hR0] at hct hrs
    have hbs := ballotText_size lots (by rw [Hll.out]; omega)
    obtain ⟨X, hX⟩ : ∃ X, ballotText lots = X := ⟨_, rfl⟩
    have HX := Lib.hid hX
    rw [hX] at hct hbs
    have hbv := ballotText_size [V] (by simp)
    obtain ⟨Y, hY⟩ : ∃ Y, ballotText [V] = Y := ⟨_, rfl⟩
    have HY := Lib.hid hY
    rw [hY] at hct hbv
    obtain ⟨T1, hT1⟩ : ∃ T, (⟨#[98, 97, 108, 108, 111, 116, 115]⟩ : ByteArray) ++ R0 = T := ⟨_, rfl⟩
    obtain ⟨T2, hT2⟩ : ∃ T, T1 ++ (⟨#[32, 108, 111, 116, 115, 32]⟩ : ByteArray) = T := ⟨_, rfl⟩
    obtain ⟨T3, hT3⟩ : ∃ T, T2 ++ X = T := ⟨_, rfl⟩
    obtain ⟨T4, hT4⟩ : ∃ T, T3 ++ (⟨#[10]⟩ : ByteArray) = T := ⟨_, rfl⟩
    obtain ⟨E1, hE1⟩ : ∃ T, (⟨#[119, 105, 110, 110, 101, 114, 32]⟩ : ByteArray) ++ Y = T := ⟨_, rfl⟩
    obtain ⟨E2, hE2⟩ : ∃ T, E1 ++ (⟨#[10]⟩ : ByteArray) = T := ⟨_, rfl⟩
    have l1 : (⟨#[98, 97, 108, 108, 111, 116, 115]⟩ : ByteArray).size = 7 := rfl
    have l2 : (⟨#[32, 108, 111, 116, 115, 32]⟩ : ByteArray).size = 6 := rfl
    have l3 : (⟨#[10]⟩ : ByteArray).size = 1 := rfl
    have l4 : (⟨#[119, 105, 110, 110, 101, 114, 32]⟩ : ByteArray).size = 7 := rfl
    have l5 : [Z].length = 1 := rfl
    have z1 : T1.size = 7 + R0.size := by rw [← hT1, ByteArray.size_append, l1]
    have z2 : T2.size = T1.size + 6 := by rw [← hT2, ByteArray.size_append, l2]
    have z3 : T3.size = T2.size + X.size := by rw [← hT3, ByteArray.size_append]
    have z4 : T4.size = T3.size + 1 := by rw [← hT4, ByteArray.size_append, l3]
    have y1 : E1.size = 7 + Y.size := by rw [← hE1, ByteArray.size_append, l4]
    have y2 : E2.size = E1.size + 1 := by rw [← hE2, ByteArray.size_append, l3]
    have a1 := add_str _ _ _ hT1 (by omega)
    have a2 := add_str _ _ _ hT2 (by omega)
    have a3 := add_str _ _ _ hT3 (by omega)
    have a4 := add_str _ _ _ hT4 (by omega)
    have b1 := add_str _ _ _ hE1 (by omega)
    have b2 := add_str _ _ _ hE2 (by omega)
    rw [hT1, hT2, hT3, hT4, hE1, hE2] at hct
    have hT4s : T4.size ≤ 200 := by omega
    have hE2s : E2.size ≤ 200 := by omega
    have Hct := Lib.hid hct
    have Hfit := Lib.hid hh.1
    have hm3 := hh.2.1
    clear hT1 hT2 hT3 hT4 hE1 hE2 l1 l2 l3 l4 l5 z1 z2 z3 z4 y1 y2 hct hrs hzs hbs hbv hY hX hR0 hV hZ hsum hlots hwe hL hres hll hh hN hok hrng
    go_enter Tryz.func37, Tryz.ntmps37
    go_wp2_with fail
    refine (c_impl_ContestWinner lo A0 np cap ps _ m _ _ h Hs.out).mono ?_
    rintro e w1 ⟨rfl, hg1⟩
    rw [HV.out]
    have h1 := Piles.keep0 h hg1
    go_wp2_with fail
    refine (hcl.out _).mono ?_
    rintro e w2 ⟨B, k, c, rfl, hg2, hB⟩
    obtain rfl : k = N := by have := hB.1; simp [Hll.out] at this; exact this.symm
    have hI2 : Ints w2 w1.heap.size B k c lots := Sl.own hB
    have h2 := Piles.keep0 h1 hg2
    have hG2 := gb_trans hg1 hg2
    have hT2w := Lib.hid (HT.out.grown hG2)
    have HG2 := Lib.hid hG2
    clear hB h1 hg1 hg2 hG2
    have hBd := Bdr.new w2
    have hga := gb_alloc (gb_refl w2 none) (.cells #[.pointer none, .slice none 0 0] 37)
    obtain ⟨w3, hw3⟩ : ∃ x, w2.alloc (.cells #[.pointer none, .slice none 0 0] 37) = x := ⟨_, rfl⟩
    have hw3' := Lib.hid hw3
    rw [hw3] at hBd hga
    clear hw3
    go_wp2_with fail
    rw [hw3'.out]
    refine (c_impl_PilesTotal lo A0 np cap ps _ (Piles.keep0 h2 hga) Hs.out).mono ?_
    rintro e w4 ⟨rfl, hg4⟩
    rw [hpt.out]
    have hG4 := gb_trans hga hg4
    go_wp2_with fail
    refine (c_numbersText _ _ 1 1 [Z] _ (ints_one _ Z) Hzs.out (by omega) (hT2w.out.grown (gb_alloc hG4 _))).mono ?_
    rintro e w5 ⟨rfl, hg5⟩
    rw [HR0.out]
    have hG5 := gb_trans (gb_alloc hG4 _) hg5
    go_wp2_with fail
    refine (c_impl_BallotText _ B k c lots _ (Sl.keep0 hI2 hG5) (by omega)).mono ?_
    rintro e w6 ⟨rfl, hg6⟩
    rw [HX.out]
    have hG6 := gb_trans hG5 hg6
    have hg36 : w3.grownBy w6 none := gb_trans (gb_trans (gb_alloc hg4 _) hg5) hg6
    have hBd6 := hBd.grown hg36
    clear hg4 hG4 hg5 hG5 hg6 hBd hga
    have he0 : (⟨#[]⟩ : ByteArray) ++ T4 = T4 := ByteArray.empty_append
    have hcw := c_write _ _ _ _ _ w6 hBd6 he0 (by omega)
    clear he0
    have Hcw := Lib.hid hcw
    clear hcw hg36
    go_wp2_with fail
    refine Hcw.out.mono ?_
    rintro e w7 ⟨rfl, hBd7, hK7⟩
    have hG7 : w2.grownBy w7 none := BKeep.old hG6 hK7
    have h7 := Piles.keep0 h2 hG7
    have hI7 : Ints w7 w1.heap.size B k c lots := Sl.keep0 hI2 hG7
    have hT7 := Lib.hid (hT2w.out.grown hG7)
    have hwb : w2.heap.size < w7.heap.size := by
      obtain ⟨c0, f0, hb0⟩ := hBd7.blk
      exact (Array.getElem?_eq_some_iff.1 hb0).1
    clear Hcw hBd6 hK7 hG6 h2 hI2
    by_cases h1 : m = 1
    · subst h1
      have hbd := Lib.hid (show ∀ z ∈ fCounts (List.replicate k false) ps, 0 ≤ z ∧ z ≤ 1000000 from fun z hz => by have := hbf.out z hz; omega)
      have hcl1 : Hid ((fCounts (List.replicate k false) ps).length = k) := Lib.hid (by rw [fCounts_len]; simp)
      have hsz := rowText_size hbd.out
      rw [hcl1.out] at hsz
      obtain ⟨R, hR⟩ : ∃ R, rowText (fCounts (List.replicate k false) ps) = R := ⟨_, rfl⟩
      rw [hR] at hsz
      obtain ⟨C1, hC1⟩ : ∃ T, (⟨#[99, 111, 117, 110, 116, 115]⟩ : ByteArray) ++ R = T := ⟨_, rfl⟩
      obtain ⟨C2, hC2⟩ : ∃ T, C1 ++ (⟨#[10]⟩ : ByteArray) = T := ⟨_, rfl⟩
      obtain ⟨TT, hTT⟩ : ∃ T, T4 ++ C2 = T := ⟨_, rfl⟩
      have l1 : (⟨#[99, 111, 117, 110, 116, 115]⟩ : ByteArray).size = 6 := rfl
      have l2 : (⟨#[10]⟩ : ByteArray).size = 1 := rfl
      have z1 : C1.size = 6 + R.size := by rw [← hC1, ByteArray.size_append, l1]
      have z2 : C2.size = C1.size + 1 := by rw [← hC2, ByteArray.size_append, l2]
      have z3 : TT.size = T4.size + C2.size := by rw [← hTT, ByteArray.size_append]
      have a5 := add_str _ _ _ hC1 (by omega)
      have a6 := add_str _ _ _ hC2 (by omega)
      have hTS : TT.size ≤ 7000 := by omega
      have HTT : Hid (TT = T4 ++ midText ps k 1 lots) := Lib.hid (by unfold midText; rw [if_pos rfl, hR, hC1, hC2, hTT])
      have HR := Lib.hid hR
      have Hcw1 := Lib.hid (fun x hx => c_write w2.heap.size w2.heap.size T4 C2 TT x hx hTT (by omega))
      clear hC1 hC2 hTT l1 l2 z1 z2 z3 hsz hR
      obtain ⟨w8, hmk, hg8, hown8⟩ := mk_bools k (by omega) w7
      go_wp2_with fail
      refine (c_firstCounts lo w7.heap.size A0 _ np cap k k ps (List.replicate k false) w8 (h7.keep0 hg8) (Sl.own hown8) Hs.out Hfit.out).mono ?_
      rintro e w9 ⟨D, rfl, hg9, hD⟩
      have hI9 : Ints w9 w8.heap.size D k k (fCounts (List.replicate k false) ps) := Sl.own hD
      have hg79 := gb_trans hg8 hg9
      have hT9 := hT7.out.grown hg79
      clear hmk hown8 hD hg8 hg9
      go_wp2_with fail
      refine (c_numbersText _ D k k _ _ hI9 hbd.out (by omega) hT9).mono ?_
      rintro e w10 ⟨rfl, hg10⟩
      rw [HR.out]
      have hg710 := gb_trans hg79 hg10
      have hB10 := hBd7.grown hg710
      have hG10 := gb_trans hG7 hg710
      clear hI9 hT9 hg79 hg10 hg710
      go_wp2_with fail
      refine (Hcw1.out _ hB10).mono ?_
      rintro e w11 ⟨rfl, hB11, hK11⟩
      have hG11 := BKeep.old hG10 hK11
      clear hB10 hK11 hG10 Hcw1
      obtain ⟨U, hU⟩ : ∃ U, TT ++ E2 = U := ⟨_, rfl⟩
      have hUs : U.size ≤ 1000000000 := by rw [← hU, ByteArray.size_append]; omega
      have hfin : Hid (U = conText ps (k : Int) 1 (S : Int)) := Lib.hid (by rw [Hct.out, ← hU, HTT.out])
      have Hcw := Lib.hid (fun x hx => c_write w2.heap.size w2.heap.size TT E2 U x hx hU hUs)
      clear hU hUs
      go_wp2_with fail
      refine (c_impl_BallotText _ _ 1 1 [V] _ (ints_one _ V) (by omega)).mono ?_
      rintro e wa ⟨rfl, hga⟩
      rw [HY.out]
      have hBa := hB11.grown (gb_trans (gb_alloc (gb_refl _ none) _) hga)
      have hGa := gb_trans (gb_alloc hG11 _) hga
      go_wp2_with fail
      refine (Hcw.out _ hBa).mono ?_
      rintro e wb ⟨rfl, hBb, hKb⟩
      have hGb := BKeep.old hGa hKb
      go_wp2_with fail
      refine (c_read _ _ U _ hBb).mono ?_
      rintro e wc ⟨rfl, hKc⟩
      go_wp2
      go_ret
      exact ⟨ret_str hfin.out, gb_trans HG2.out (BKeep.old hGb hKc)⟩
    by_cases h2 : m = 2
    · subst h2
      go_wp2_with fail
      refine (c_RunoffRounds lo _ A0 B np cap k c ps lots _ h7 hI7 Hs.out Hfit.out Hp.out).mono ?_
      rintro e w8 ⟨A, n, cA, hd, rfl, hg8, hO⟩
      have hn5 : n ≤ 5 := by have := hO.xlen; omega
      have hrx := Lib.hid hO.xlen
      obtain ⟨rs, hrs⟩ : ∃ r, rRounds ps lots = r := ⟨_, rfl⟩
      have Hrs := Lib.hid hrs
      rw [hrs] at hO hrm hrl hrx
      clear hrs
      have hB8 := hBd7.grown hg8
      have hG8 := gb_trans hG7 hg8
      have hgx := hG8.size
      go_wp2
      go_loopw [64] (fun i wr => ∃ (j : Nat) (t : ByteArray), j ≤ n ∧ i = .int .i64 j ∧ Bdr wr w2.heap.size w2.heap.size t ∧ BKeep w8 wr w2.heap.size w2.heap.size ∧ t.size ≤ 200 + 1000 * j ∧ Hid (t = T4 ++ catOf roundLine (rs.take j))) (fun i _ => n - (intOf i).toNat)
      case atStart => exact ⟨0, T4, Nat.zero_le _, rfl, hB8, BKeep.refl _ _ _, by omega, Lib.hid (ba_empty T4).symm⟩
      case round =>
        obtain ⟨j, t, hj, rfl, hBr, hKr, hts, hTr⟩ := hrel
        have hGr := BKeep.old hG8 hKr
        have hTw := hT2w.out.grown hGr
        have HTw := Lib.hid hTw
        have hOr := hO.bkeep hB8 hKr
        clear hTw
        by_cases hlt : j < n
        · obtain ⟨b, ⟨cs, o⟩, d, rfl, hr, hI, p0, p1⟩ := hOr.at_ hlt
          have hrb := hrm.out _ (List.mem_of_getElem? hr.out)
          have hj' : (j : Int) < (n : Int) := by omega
          have hj0 : (0 : Int) ≤ (j : Int) := by omega
          have hcl : cs.length = k := hrb.1
          have hbd := Lib.hid hrb.2
          have hsz := rowText_size hrb.2
          simp only at hI p0 p1 hsz hbd
          rw [hcl] at hI p0 hsz
          obtain ⟨R, hR⟩ : ∃ R, rowText cs = R := ⟨_, rfl⟩
          have HR := Lib.hid hR
          rw [hR] at hsz
          obtain ⟨C1, hC1⟩ : ∃ T, (⟨#[114, 111, 117, 110, 100]⟩ : ByteArray) ++ R = T := ⟨_, rfl⟩
          obtain ⟨D1, hD1⟩ : ∃ T, t ++ C1 = T := ⟨_, rfl⟩
          have l1 : (⟨#[114, 111, 117, 110, 100]⟩ : ByteArray).size = 5 := rfl
          have l2 : (⟨#[10]⟩ : ByteArray).size = 1 := rfl
          have z1 : C1.size = 5 + R.size := by rw [← hC1, ByteArray.size_append, l1]
          have z2 : D1.size = t.size + C1.size := by rw [← hD1, ByteArray.size_append]
          have a5 := add_str _ _ _ hC1 (by omega)
          have Hc1 := Lib.hid (fun x hx => c_write w2.heap.size w2.heap.size t C1 D1 x hx hD1 (by omega))
          by_cases ho : 0 ≤ o
          · have l3 : (⟨#[32, 111, 117, 116, 32]⟩ : ByteArray).size = 5 := rfl
            have l4 := ballotText_size [o] (by simp)
            obtain ⟨Q, hQ⟩ : ∃ X, ballotText [o] = X := ⟨_, rfl⟩
            rw [hQ] at l4
            obtain ⟨C2, hC2⟩ : ∃ T, (⟨#[32, 111, 117, 116, 32]⟩ : ByteArray) ++ Q = T := ⟨_, rfl⟩
            obtain ⟨D2, hD2⟩ : ∃ T, D1 ++ C2 = T := ⟨_, rfl⟩
            obtain ⟨D3, hD3⟩ : ∃ T, D2 ++ (⟨#[10]⟩ : ByteArray) = T := ⟨_, rfl⟩
            have z3 : C2.size = 5 + Q.size := by rw [← hC2, ByteArray.size_append, l3]
            have z4 : D2.size = D1.size + C2.size := by rw [← hD2, ByteArray.size_append]
            have z5 : D3.size = D2.size + 1 := by rw [← hD3, ByteArray.size_append, l2]
            have a6 := add_str _ _ _ hC2 (by omega)
            have Hc2 := Lib.hid (fun x hx => c_write w2.heap.size w2.heap.size D1 C2 D2 x hx hD2 (by omega))
            have Hc3 := Lib.hid (fun x hx => c_write w2.heap.size w2.heap.size D2 ⟨#[10]⟩ D3 x hx hD3 (by omega))
            have hts5 : D3.size ≤ 200 + 1000 * (j + 1) := by omega
            have hfin : Hid (D3 = T4 ++ catOf roundLine (rs.take (j + 1))) := Lib.hid (by
              rw [take_succ_of hr.out, catOf_snoc, ← hD3, ← hD2, ← hD1, ← hC2, ← hC1, hTr.out]
              unfold roundLine outText
              rw [if_pos ho, hR, hQ]
              simp only [ByteArray.append_assoc])
            have HQ := Lib.hid hQ
            clear hC1 hC2 hD1 hD2 hD3 l1 l2 l3 l4 z1 z2 z3 z4 z5 hsz hR hQ hrb hcl
            go_wp2_with fail
            refine (c_numbersText _ _ k _ _ _ (Sl.keep0 hI (gb_alloc (gb_refl _ none) _)) hbd.out (by omega) (HTw.out.grown (gb_alloc (gb_refl _ none) _))).mono ?_
            rintro e wa ⟨rfl, hga⟩
            rw [HR.out]
            have hgra := gb_trans (gb_alloc (gb_refl wr none) _) hga
            have hBa := hBr.grown hgra
            have hKa := hKr.grown hBr.lo hgra
            have hbq := (Blk.new wr 83 #[.slice d.1 k d.2, .int .i64 o])
            have hbqa := hbq.grown hga (by simp)
            go_wp2_with fail
            refine (Hc1.out _ hBa).mono ?_
            rintro e wb ⟨rfl, hBb, hKb⟩
            have hbqb : Blk wb wr.heap.size 83 #[.slice d.1 k d.2, .int .i64 o] := hKb.others _ _ hbqa (fun e => by injection e with e; have := hBr.blk; obtain ⟨_, _, h0⟩ := this; have := (Array.getElem?_eq_some_iff.1 h0).1; omega) (fun c f e => by injection e with _ e _; exact absurd e (by decide))
            have q1 := hbqb.cell 1
            simp at q1
            have hKab := hKa.trans hKb
            go_wp2_with fail
            refine (c_impl_BallotText _ _ 1 1 [o] _ (ints_one _ o) (by omega)).mono ?_
            rintro e wc ⟨rfl, hgc⟩
            rw [HQ.out]
            have hgbc := gb_trans (gb_alloc (gb_refl wb none) (.cells #[.int .i64 o] 3)) hgc
            have hBc := hBb.grown hgbc
            have hKc := hKab.grown hBb.lo hgbc
            go_wp2_with fail
            refine (Hc2.out _ hBc).mono ?_
            rintro e wd ⟨rfl, hBd, hKd⟩
            have hKcd := hKc.trans hKd
            go_wp2_with fail
            refine (Hc3.out _ hBd).mono ?_
            rintro e we ⟨rfl, hBe, hKe⟩
            go_wp2
            go_roundw
            case rel => exact ⟨j + 1, D3, by omega, by go_num, hBe, hKcd.trans hKe, hts5, hfin⟩
            case measure => simp [intOf]; omega
          · obtain ⟨D3, hD3⟩ : ∃ T, D1 ++ (⟨#[10]⟩ : ByteArray) = T := ⟨_, rfl⟩
            have z5 : D3.size = D1.size + 1 := by rw [← hD3, ByteArray.size_append, l2]
            have Hc3 := Lib.hid (fun x hx => c_write w2.heap.size w2.heap.size D1 ⟨#[10]⟩ D3 x hx hD3 (by omega))
            have hts5 : D3.size ≤ 200 + 1000 * (j + 1) := by omega
            have hfin : Hid (D3 = T4 ++ catOf roundLine (rs.take (j + 1))) := Lib.hid (by
              rw [take_succ_of hr.out, catOf_snoc, ← hD3, ← hD1, ← hC1, hTr.out]
              unfold roundLine outText
              rw [if_neg ho, hR, ba_empty]
              simp only [ByteArray.append_assoc])
            clear hC1 hD1 hD3 l1 l2 z1 z2 z5 hsz hR hrb hcl
            go_wp2_with fail
            refine (c_numbersText _ _ k _ _ _ (Sl.keep0 hI (gb_alloc (gb_refl _ none) _)) hbd.out (by omega) (HTw.out.grown (gb_alloc (gb_refl _ none) _))).mono ?_
            rintro e wa ⟨rfl, hga⟩
            rw [HR.out]
            have hgra := gb_trans (gb_alloc (gb_refl wr none) _) hga
            have hBa := hBr.grown hgra
            have hKa := hKr.grown hBr.lo hgra
            have hbq := (Blk.new wr 83 #[.slice d.1 k d.2, .int .i64 o])
            have hbqa := hbq.grown hga (by simp)
            go_wp2_with fail
            refine (Hc1.out _ hBa).mono ?_
            rintro e wb ⟨rfl, hBb, hKb⟩
            have hbqb : Blk wb wr.heap.size 83 #[.slice d.1 k d.2, .int .i64 o] := hKb.others _ _ hbqa (fun e => by injection e with e; have := hBr.blk; obtain ⟨_, _, h0⟩ := this; have := (Array.getElem?_eq_some_iff.1 h0).1; omega) (fun c f e => by injection e with _ e _; exact absurd e (by decide))
            have q1 := hbqb.cell 1
            simp at q1
            have hKab := hKa.trans hKb
            go_wp2_with fail
            refine (Hc3.out _ hBb).mono ?_
            rintro e we ⟨rfl, hBe, hKe⟩
            go_wp2
            go_roundw
            case rel => exact ⟨j + 1, D3, by omega, by go_num, hBe, hKab.trans hKe, hts5, hfin⟩
            case measure => simp [intOf]; omega
        · obtain rfl : j = n := by omega
          have HTT : Hid (t = T4 ++ midText ps k 2 lots) := Lib.hid (by rw [hTr.out, List.take_of_length_le (by rw [hrx.out]; exact Nat.le_refl _), midText, if_neg (by omega), if_pos rfl, Hrs.out])
          have hTS : t.size ≤ 7000 := by omega
          clear hTr
          obtain ⟨U, hU⟩ : ∃ U, t ++ E2 = U := ⟨_, rfl⟩
          have hUs : U.size ≤ 1000000000 := by rw [← hU, ByteArray.size_append]; omega
          have hfin : Hid (U = conText ps (k : Int) 2 (S : Int)) := Lib.hid (by rw [Hct.out, ← hU, HTT.out])
          have Hcw := Lib.hid (fun x hx => c_write w2.heap.size w2.heap.size t E2 U x hx hU hUs)
          clear hU hUs
          go_wp2_with fail
          refine (c_impl_BallotText _ _ 1 1 [V] _ (ints_one _ V) (by omega)).mono ?_
          rintro e wa ⟨rfl, hga⟩
          rw [HY.out]
          have hBa := hBr.grown (gb_trans (gb_alloc (gb_refl _ none) _) hga)
          have hGa := gb_trans (gb_alloc hGr _) hga
          go_wp2_with fail
          refine (Hcw.out _ hBa).mono ?_
          rintro e wb ⟨rfl, hBb, hKb⟩
          have hGb := BKeep.old hGa hKb
          go_wp2_with fail
          refine (c_read _ _ U _ hBb).mono ?_
          rintro e wc ⟨rfl, hKc⟩
          go_wp2
          go_ret
          exact ⟨ret_str hfin.out, gb_trans HG2.out (BKeep.old hGb hKc)⟩
    have hmt : Hid (midText ps k m lots = catOf pairLine (tabOf k (cnt ps))) := Lib.hid (by unfold midText; rw [if_neg h1, if_neg h2])
    obtain rfl : m = 3 := by omega
    clear h1 h2
    go_wp2_with fail
    refine (c_pairCountsO lo A0 np cap k ps _ h7 Hs.out Hfit.out).mono ?_
    rintro e w8 ⟨D, hi, hds, rfl, hg8, hO⟩
    have hB8 := hBd7.grown hg8
    have hG8 := gb_trans hG7 hg8
    go_wp2
    go_loopw [90] (fun i wr => ∃ (j : Nat) (t : ByteArray), j ≤ k ∧ i = .int .i64 j ∧ Bdr wr w2.heap.size w2.heap.size t ∧ BKeep w8 wr w2.heap.size w2.heap.size ∧ t.size ≤ 200 + 1000 * j ∧ Hid (t = T4 ++ catOf pairLine ((tabOf k (cnt ps)).take j))) (fun i _ => k - (intOf i).toNat)
    case atStart => exact ⟨0, T4, Nat.zero_le _, rfl, hB8, BKeep.refl _ _ _, by omega, Lib.hid (ba_empty T4).symm⟩
    case round =>
      obtain ⟨j, t, hj, rfl, hBr, hKr, hts, hTr⟩ := hrel
      have hGr := BKeep.old hG8 hKr
      have HTw := Lib.hid (hT2w.out.grown hGr)
      have hOr := (hO.bkeep hB8 hKr).irows
      by_cases hlt : j < k
      · obtain ⟨b, off, ys, A', c', rfl, hr, hI, p0⟩ := hOr.at_ hlt
        have hys : ys = tabRow k (cnt ps j) := by have := hr.out; rw [tabOf_at _ hlt] at this; injection this with this; exact this.symm
        have hbd := Lib.hid (show ∀ z ∈ ys, 0 ≤ z ∧ z ≤ 1000000 from by rw [hys]; exact hcr.out j)
        have hcl : ys.length = k := by rw [hys, tabRow_len]
        have hj' : (j : Int) < (k : Int) := by omega
        have hj0 : (0 : Int) ≤ (j : Int) := by omega
        have hsz := rowText_size hbd.out
        rw [hcl] at hI p0 hsz
        clear hys
        obtain ⟨R, hR⟩ : ∃ R, rowText ys = R := ⟨_, rfl⟩
        have HR := Lib.hid hR
        rw [hR] at hsz
        obtain ⟨C1, hC1⟩ : ∃ T, (⟨#[112, 97, 105, 114]⟩ : ByteArray) ++ R = T := ⟨_, rfl⟩
        obtain ⟨C2, hC2⟩ : ∃ T, C1 ++ (⟨#[10]⟩ : ByteArray) = T := ⟨_, rfl⟩
        obtain ⟨D1, hD1⟩ : ∃ T, t ++ C2 = T := ⟨_, rfl⟩
        have l1 : (⟨#[112, 97, 105, 114]⟩ : ByteArray).size = 4 := rfl
        have l2 : (⟨#[10]⟩ : ByteArray).size = 1 := rfl
        have z1 : C1.size = 4 + R.size := by rw [← hC1, ByteArray.size_append, l1]
        have z2 : C2.size = C1.size + 1 := by rw [← hC2, ByteArray.size_append, l2]
        have z3 : D1.size = t.size + C2.size := by rw [← hD1, ByteArray.size_append]
        have a5 := add_str _ _ _ hC1 (by omega)
        have a6 := add_str _ _ _ hC2 (by omega)
        have hts3 : D1.size ≤ 200 + 1000 * (j + 1) := by omega
        have Hc1 := Lib.hid (fun x hx => c_write w2.heap.size w2.heap.size t C2 D1 x hx hD1 (by omega))
        have hfin : Hid (D1 = T4 ++ catOf pairLine ((tabOf k (cnt ps)).take (j + 1))) := Lib.hid (by
          rw [take_succ_of hr.out, catOf_snoc, ← hD1, ← hC2, ← hC1, hTr.out]
          unfold pairLine
          rw [hR]
          simp only [ByteArray.append_assoc])
        clear hC1 hC2 hD1 l1 l2 z1 z2 z3 hsz hR hcl
        go_wp2_with fail
        refine (c_numbersText _ _ k _ _ _ hI hbd.out (by omega) HTw.out).mono ?_
        rintro e wa ⟨rfl, hga⟩
        rw [HR.out]
        have hBa := hBr.grown hga
        have hKa := hKr.grown hBr.lo hga
        go_wp2_with fail
        refine (Hc1.out _ hBa).mono ?_
        rintro e wb ⟨rfl, hBb, hKb⟩
        go_wp2
        go_roundw
        case rel => exact ⟨j + 1, D1, by omega, by go_num, hBb, hKa.trans hKb, hts3, hfin⟩
        case measure => simp [intOf]; omega
      · obtain rfl : j = k := by omega
        have HTT : Hid (t = T4 ++ midText ps j 3 lots) := Lib.hid (by rw [hTr.out, List.take_of_length_le (by rw [tabOf_len]; exact Nat.le_refl _), hmt.out])
        have hTS : t.size ≤ 7000 := by omega
        clear hTr
        obtain ⟨U, hU⟩ : ∃ U, t ++ E2 = U := ⟨_, rfl⟩
        have hUs : U.size ≤ 1000000000 := by rw [← hU, ByteArray.size_append]; omega
        have hfin : Hid (U = conText ps (j : Int) 3 (S : Int)) := Lib.hid (by rw [Hct.out, ← hU, HTT.out])
        have Hcw := Lib.hid (fun x hx => c_write w2.heap.size w2.heap.size t E2 U x hx hU hUs)
        clear hU hUs
        go_wp2_with fail
        refine (c_impl_BallotText _ _ 1 1 [V] _ (ints_one _ V) (by omega)).mono ?_
        rintro e wa ⟨rfl, hga⟩
        rw [HY.out]
        have hBa := hBr.grown (gb_trans (gb_alloc (gb_refl _ none) _) hga)
        have hGa := gb_trans (gb_alloc hGr _) hga
        go_wp2_with fail
        refine (Hcw.out _ hBa).mono ?_
        rintro e wb ⟨rfl, hBb, hKb⟩
        have hGb := BKeep.old hGa hKb
        go_wp2_with fail
        refine (c_read _ _ U _ hBb).mono ?_
        rintro e wc ⟨rfl, hKc⟩
        go_wp2
        go_ret
        exact ⟨ret_str hfin.out, gb_trans HG2.out (BKeep.old hGb hKc)⟩
  · have hok' : conOK ps n m s = false := by simpa using hok
    have Hok := Lib.hid hok'
    have hw := cWin_ok (ps := ps) (n := n) (m := m) (s := s)
    rw [hok'] at hw
    have hneg : cWin ps n m s < 0 := by have := hw.symm; simp at this; exact this
    obtain ⟨V, hV⟩ : ∃ V, cWin ps n m s = V := ⟨_, rfl⟩
    have HV := Lib.hid hV
    rw [hV] at hneg
    clear hok hok' hw hV
    go_enter Tryz.func37, Tryz.ntmps37
    go_wp2_with fail
    refine (c_impl_ContestWinner lo A0 np cap ps n m s _ h Hs.out).mono ?_
    rintro e w1 ⟨rfl, hg1⟩
    rw [HV.out]
    go_wp2
    go_ret
    exact ⟨ret_str (by rw [conText_no Hok.out]), hg1⟩
end Go.Proofs.YtboobimpoddacaaGreatDoor
