/-
  Plain words for memory, over any program: what a call leaves as it was (grownBy), a slice that reads as a list (Rd), a block known whole (Blk). No program is named here.
-/
import Derived.WalkKit
import Derived.Deep.Draws
import Derived.Laws.OwnMore
import Derived.Laws.Rows
import Derived.Laws.Strings
import Derived.Laws.BitsAllLaws
import Derived.Laws.BitsLemmas
import Derived.Lib.Hide
namespace Go.Proofs.YtipnalfkpalieaaDoor
open Go.RowKit
set_option linter.unusedVariables false

theorem ret_int {k : IntKind} {a b : Int} (h : a = b) : Ending.returned (.int k a) = .returned (.int k b) := by rw [h]
theorem ret_bool {a b : Bool} (h : a = b) : Ending.returned (.bool a) = .returned (.bool b) := by rw [h]
theorem ret_str {a b : ByteArray} (h : a = b) : Ending.returned (.string a) = .returned (.string b) := by rw [h]

theorem getD_at {α : Type} {l : List α} {i : Nat} (d : α) (h : i < l.length) : l.getD i d = l[i] := by
  rw [List.getD_eq_getElem?_getD, List.getElem?_eq_getElem h]
  rfl

/-! ### texts -/
theorem str_ext {a b : ByteArray} (h : a.toList = b.toList) : a = b := by
  rw [ByteArray.toList_eq, ByteArray.toList_eq] at h
  exact ByteArray.ext (Array.toList_inj.1 h)
theorem str_ne {a b : ByteArray} (h : a ≠ b) : (a.toList == b.toList) = false := beq_eq_false_iff_ne.2 fun e => h (str_ext e)
theorem str_eq (a b : ByteArray) : (a.toList == b.toList) = decide (a = b) := by
  by_cases h : a = b
  · subst h; simp
  · rw [str_ne h, decide_eq_false h]

/-! ### what is kept -/
theorem gb_refl (w : World) (row : Option Nat) : w.grownBy w row := ⟨rfl, rfl, rfl, Nat.le_refl _, fun _ _ _ => rfl⟩
theorem gb_trans {a b c : World} {row : Option Nat} (h : a.grownBy b row) (k : b.grownBy c row) : a.grownBy c row :=
  ⟨k.os.trans h.os, k.tape.trans h.tape, k.output.trans h.output, Nat.le_trans h.size k.size, fun i hi hn => (k.block i (Nat.lt_of_lt_of_le hi h.size) hn).trans (h.block i hi hn)⟩
theorem gb_mono {a b : World} (h : a.grownBy b none) (row : Option Nat) : a.grownBy b row :=
  ⟨h.os, h.tape, h.output, h.size, fun i hi _ => h.block i hi (by simp)⟩
theorem gb_drew {a w : World} {row : Option Nat} (h : a.grownBy w row) : a.grownBy w.drew row := ⟨h.os, h.tape, h.output, h.size, h.block⟩
theorem gb_drewN {a w : World} {row : Option Nat} (h : a.grownBy w row) (n : Nat) : a.grownBy (w.drewN n) row := ⟨h.os, h.tape, h.output, h.size, h.block⟩
theorem gb_alloc {a w : World} {row : Option Nat} (h : a.grownBy w row) (o : Obj) : a.grownBy (w.alloc o) row :=
  ⟨h.os, h.tape, h.output, Nat.le_trans h.size (by simp), fun i hi hne => (Below.heap_alloc w o i (Nat.lt_of_lt_of_le hi h.size)).trans (h.block i hi hne)⟩
theorem gb_setCell {a w : World} {row : Option Nat} (h : a.grownBy w row) {p : Addr} (hp : row = some p.block ∨ a.heap.size ≤ p.block) (u : Value) : a.grownBy (w.setCell p u) row :=
  ⟨h.os, h.tape, h.output, by simpa [World.setCell] using h.size, fun i hi hne => (Below.heap_setCell w p u i (by
    rintro rfl
    rcases hp with hp | hp
    · exact hne hp.symm
    · omega)).trans (h.block i hi hne)⟩
/-- A step that may write row r, itself a block of the call's own. -/
theorem gb_step {a w w' : World} {row r : Option Nat} (h : a.grownBy w row) (k : w.grownBy w' r) (hr : ∀ g, r = some g → row = some g ∨ a.heap.size ≤ g) : a.grownBy w' row :=
  ⟨k.os.trans h.os, k.tape.trans h.tape, k.output.trans h.output, Nat.le_trans h.size k.size, fun i hi hn => (k.block i (Nat.lt_of_lt_of_le hi h.size) (by
    intro e
    rcases hr i e.symm with h1 | h1
    · exact hn h1.symm
    · omega)).trans (h.block i hi hn)⟩
theorem gb_below {a w : World} (h : a.grownBy w none) : Below a.heap.size a w := ⟨h.os, h.tape, h.output, h.size, fun i hi => h.block i hi (by simp)⟩
theorem gb_of_below {a w : World} (h : Below a.heap.size a w) (row : Option Nat) : a.grownBy w row := ⟨h.os, h.tape, h.output, h.size, fun i hi _ => h.block i hi⟩
theorem gb_cell {w w' : World} {row : Option Nat} (hg : w.grownBy w' row) {p : Addr} {v : Value} (h : w.cell? p = some v) (hne : some p.block ≠ row) : w'.cell? p = some v := hg.cell h hne

/-! ### a block known whole -/
def Blk (w : World) (g : Nat) (t : TypeId) (cs : Array Value) : Prop := w.heap[g]? = some (.cells cs t (0, 0))
section
variable {w w' : World} {g : Nat} {t : TypeId} {cs : Array Value}
theorem Blk.lt (h : Blk w g t cs) : g < w.heap.size := by
  rcases Nat.lt_or_ge g w.heap.size with hlt | hge
  · exact hlt
  · unfold Blk at h; rw [Array.getElem?_eq_none hge] at h; cases h
theorem Blk.cell (h : Blk w g t cs) (i : Nat) : w.cell? ⟨g, i, none⟩ = cs[i]? := cell_of_row w g i cs t (0, 0) h
theorem Blk.frozen (h : Blk w g t cs) (i : Nat) : w.frozen? ⟨g, i, none⟩ = false := by
  unfold Blk at h
  simp [World.frozen?, h]
theorem Blk.new (w : World) (t : TypeId) (cs : Array Value) : Blk (w.alloc (.cells cs t)) w.heap.size t cs := heap_alloc_new w _
theorem Blk.drewN (h : Blk w g t cs) (n : Nat) : Blk (w.drewN n) g t cs := h
theorem Blk.alloc (h : Blk w g t cs) (o : Obj) : Blk (w.alloc o) g t cs := (Below.heap_alloc w o g h.lt).trans h
theorem Blk.set_ (h : Blk w g t cs) (i : Nat) (u : Value) : Blk (w.setCell ⟨g, i, none⟩ u) g t (cs.setIfInBounds i u) := by
  unfold Blk at h ⊢
  simp [World.setCell, Array.getElem?_modify, h]
theorem Blk.far (h : Blk w g t cs) {p : Addr} (hp : g ≠ p.block) (u : Value) : Blk (w.setCell p u) g t cs := (Below.heap_setCell w p u g hp).trans h
theorem Blk.grown {row : Option Nat} (h : Blk w g t cs) (hb : w.grownBy w' row) (hg : some g ≠ row) : Blk w' g t cs := (hb.block g h.lt hg).trans h
end

/-! ### a slice that reads as a list of cells; lo: a bound below its block -/
def Rd (w : World) (lo size : Nat) (A : Option Addr) (n : Nat) (xs : List Value) : Prop :=
  xs.length = n * size ∧ (0 < n → ∃ b off, A = some ⟨b, off, none⟩ ∧ lo ≤ b ∧ b < w.heap.size ∧ ∀ j u, xs[j]? = some u → w.cell? ⟨b, off + j, none⟩ = some u)
section
variable {w w' : World} {lo size n : Nat} {A : Option Addr} {xs : List Value}
theorem Rd.nil (w : World) (lo size : Nat) (A : Option Addr) : Rd w lo size A 0 [] := ⟨by simp, fun h => absurd h (by omega)⟩
theorem Rd.ex (h : Rd w lo size A n xs) (hn : 0 < n) : ∃ b off, A = some ⟨b, off, none⟩ ∧ lo ≤ b ∧ b < w.heap.size ∧ ∀ j u, xs[j]? = some u → w.cell? ⟨b, off + j, none⟩ = some u := h.2 hn
theorem Rd.keep {row : Option Nat} (h : Rd w lo size A n xs) (hg : w.grownBy w' row) (hr : ∀ k, row = some k → k < lo) : Rd w' lo size A n xs :=
  ⟨h.1, fun hn => by
    obtain ⟨b, off, e, hl, hb, hc⟩ := h.2 hn
    exact ⟨b, off, e, hl, Nat.lt_of_lt_of_le hb hg.size, fun j u hu => gb_cell hg (hc j u hu) (fun e => by have := hr b e.symm; omega)⟩⟩
theorem Rd.keep0 (h : Rd w lo size A n xs) (hg : w.grownBy w' none) : Rd w' lo size A n xs := h.keep hg (by simp)
theorem Rd.mono {lo' : Nat} (h : Rd w lo size A n xs) (hl : lo' ≤ lo) : Rd w lo' size A n xs :=
  ⟨h.1, fun hn => by
    obtain ⟨b, off, e, h1, hb, hc⟩ := h.2 hn
    exact ⟨b, off, e, by omega, hb, hc⟩⟩
theorem Rd.of_own {e : TypeId} {v : Value} (h : w.ownsRow lo e size v n xs) : ∃ A c, v = .slice A n c ∧ n ≤ c ∧ c ≤ maxLen ∧ Rd w lo size A n xs := by
  obtain ⟨h1, h2⟩ := h
  rcases h2 with ⟨rfl, rfl⟩ | ⟨g, cap, cur, rfl, hg, hh, hn, hc, hs, ht⟩
  · exact ⟨_, _, rfl, Nat.le_refl _, Nat.zero_le _, h1, fun h => absurd h (by omega)⟩
  · refine ⟨_, _, rfl, hn, hc, h1, fun _ => ⟨g, 0, rfl, hg, (Blk.lt hh), fun j u hu => ?_⟩⟩
    rw [Nat.zero_add, cell_of_row w g j cur e (0, 0) hh]
    rw [← ht, List.getElem?_take] at hu
    split at hu
    · simpa using hu
    · cases hu
theorem Rd.cut {k cap : Nat} (h : Rd w lo size A n xs) (hk : k ≤ n) (hc : n ≤ cap) :
    Rd w lo size (if cap = k then A else A.map (·.add (k * size))) (n - k) (xs.drop (k * size)) := by
  refine ⟨by rw [List.length_drop, h.1, Nat.sub_mul], fun hn => ?_⟩
  obtain ⟨b, off, rfl, hl, hb, hcell⟩ := h.2 (by omega)
  rw [if_neg (by omega)]
  refine ⟨b, off + k * size, ?_, hl, hb, fun j u hu => ?_⟩
  · simp only [Option.map_some, Addr.add]
    by_cases hk0 : k * size = 0 <;> simp [hk0]
  · rw [Nat.add_assoc]
    exact hcell _ u (by rw [← hu, List.getElem?_drop])
theorem Rd.take {k : Nat} (h : Rd w lo size A n xs) (hk : k ≤ n) : Rd w lo size A k (xs.take (k * size)) := by
  refine ⟨by rw [List.length_take, h.1]; exact Nat.min_eq_left (Nat.mul_le_mul_right _ hk), fun hn => ?_⟩
  obtain ⟨b, off, rfl, hl, hb, hcell⟩ := h.2 (by omega)
  refine ⟨b, off, rfl, hl, hb, fun j u hu => hcell j u ?_⟩
  rw [List.getElem?_take] at hu
  split at hu
  · exact hu
  · cases hu
end

/-! ### slices by their elements -/
/-- A slice of n elements, 'size' cells each. -/
def Sl (w : World) (lo size : Nat) (A : Option Addr) (n cap : Nat) (cs : List Value) : Prop := n ≤ cap ∧ cap ≤ maxLen ∧ Rd w lo size A n cs
/-- A slice of ints. -/
def Ints (w : World) (lo : Nat) (A : Option Addr) (n cap : Nat) (xs : List Int) : Prop := Sl w lo 1 A n cap (xs.map (Value.int .i64))
/-- A slice of strings. -/
def Strs (w : World) (lo : Nat) (A : Option Addr) (n cap : Nat) (xs : List ByteArray) : Prop := Sl w lo 1 A n cap (xs.map Value.string)
section
variable {w w' : World} {lo lo' size n cap k : Nat} {A : Option Addr} {cs : List Value}
theorem Sl.le (h : Sl w lo size A n cap cs) : n ≤ cap := h.1
theorem Sl.max (h : Sl w lo size A n cap cs) : cap ≤ 9223372036854775807 := by have := h.2.1; unfold maxLen at this; exact this
theorem Sl.keep {row : Option Nat} (h : Sl w lo size A n cap cs) (hg : w.grownBy w' row) (hr : ∀ k, row = some k → k < lo) : Sl w' lo size A n cap cs := ⟨h.1, h.2.1, h.2.2.keep hg hr⟩
theorem Sl.keep0 (h : Sl w lo size A n cap cs) (hg : w.grownBy w' none) : Sl w' lo size A n cap cs := ⟨h.1, h.2.1, h.2.2.keep0 hg⟩
theorem Sl.mono (h : Sl w lo size A n cap cs) (hl : lo' ≤ lo) : Sl w lo' size A n cap cs := ⟨h.1, h.2.1, h.2.2.mono hl⟩
theorem Sl.drewN (h : Sl w lo size A n cap cs) (m : Nat) : Sl (w.drewN m) lo size A n cap cs := h
theorem Sl.of_own {e : TypeId} {v : Value} (h : w.ownsRow lo e size v n cs) : ∃ A c, v = .slice A n c ∧ Sl w lo size A n c cs := by
  obtain ⟨A, c, rfl, h1, h2, h3⟩ := Rd.of_own h
  exact ⟨A, c, rfl, h1, h2, h3⟩
theorem Sl.own {e : TypeId} (h : w.ownsRow lo e size (.slice A n cap) n cs) : Sl w lo size A n cap cs := by
  obtain ⟨A', c', he, hs⟩ := Sl.of_own h
  injection he with h1 h2 h3
  subst h1 h3
  exact hs
theorem Sl.at1 (h : Sl w lo 1 A n cap cs) (hk : k < n) : ∃ b off u, A = some ⟨b, off, none⟩ ∧ Hid (cs[k]? = some u) ∧ w.cell? ⟨b, off + k, none⟩ = some u := by
  obtain ⟨b, off, rfl, _, _, hc⟩ := h.2.2.ex (by omega)
  have hl : k < cs.length := by have := h.2.2.1; omega
  exact ⟨b, off, cs[k], rfl, Lib.hid (List.getElem?_eq_getElem hl), hc k _ (List.getElem?_eq_getElem hl)⟩
theorem Ints.len {xs : List Int} (h : Ints w lo A n cap xs) : xs.length = n := by have := h.2.2.1; simpa using this
theorem Strs.len {xs : List ByteArray} (h : Strs w lo A n cap xs) : xs.length = n := by have := h.2.2.1; simpa using this
theorem Ints.at_ {xs : List Int} (h : Ints w lo A n cap xs) (hk : k < n) : ∃ b off z, A = some ⟨b, off, none⟩ ∧ Hid (xs[k]? = some z) ∧ w.cell? ⟨b, off + k, none⟩ = some (.int .i64 z) := by
  obtain ⟨b, off, u, e, hu, hc⟩ := Sl.at1 h hk
  have hu := hu.out
  rw [List.getElem?_map] at hu
  cases hx : xs[k]? with
  | none => rw [hx] at hu; cases hu
  | some z => rw [hx] at hu; injection hu with hu; subst hu; exact ⟨b, off, z, e, Lib.hid rfl, hc⟩
theorem Strs.at_ {xs : List ByteArray} (h : Strs w lo A n cap xs) (hk : k < n) : ∃ b off z, A = some ⟨b, off, none⟩ ∧ Hid (xs[k]? = some z) ∧ w.cell? ⟨b, off + k, none⟩ = some (.string z) := by
  obtain ⟨b, off, u, e, hu, hc⟩ := Sl.at1 h hk
  have hu := hu.out
  rw [List.getElem?_map] at hu
  cases hx : xs[k]? with
  | none => rw [hx] at hu; cases hu
  | some z => rw [hx] at hu; injection hu with hu; subst hu; exact ⟨b, off, z, e, Lib.hid rfl, hc⟩
theorem drop_cons' {α : Type} {xs : List α} {u : Nat} {z : α} (h : xs[u]? = some z) : xs.drop u = z :: xs.drop (u + 1) := by
  obtain ⟨hu, e⟩ := List.getElem?_eq_some_iff.1 h
  rw [List.drop_eq_getElem_cons hu, e]
theorem take_succ_of {α : Type} {l : List α} {k : Nat} {z : α} (h : l[k]? = some z) : l.take (k + 1) = l.take k ++ [z] := by
  rw [List.take_add_one, h]; rfl
end

/-! ### xor of numbers that are not below 0 -/
theorem ofInt_i64 (a : Nat) (ha : a < 9223372036854775808) : (BitVec.ofInt 64 (a : Int)).toNat = a := by
  rw [BitVec.ofInt_natCast, BitVec.toNat_ofNat]; exact Nat.mod_eq_of_lt (by omega)
theorem i64_xor_nat (a b : Nat) (ha : a < 9223372036854775808) (hb : b < 9223372036854775808) : bits .xor .i64 (a : Int) (b : Int) = ((a ^^^ b : Nat) : Int) := by
  have hx : a ^^^ b < 2 ^ 63 := Nat.xor_lt_two_pow (by omega) (by omega)
  show IntKind.i64.wrap ((BitVec.ofInt 64 (a : Int) ^^^ BitVec.ofInt 64 (b : Int)).toNat : Int) = _
  rw [BitVec.toNat_xor, ofInt_i64 a ha, ofInt_i64 b hb, IntKind.wrap_i64]
  omega
theorem xor_nonneg (a b : Int) (ha : 0 ≤ a) (hb : 0 ≤ b) (ha' : a < 9223372036854775808) (hb' : b < 9223372036854775808) : 0 ≤ bits .xor .i64 a b ∧ bits .xor .i64 a b < 9223372036854775808 := by
  obtain ⟨x, rfl⟩ := Int.eq_ofNat_of_zero_le ha
  obtain ⟨y, rfl⟩ := Int.eq_ofNat_of_zero_le hb
  rw [i64_xor_nat x y (by omega) (by omega)]
  have hx : x ^^^ y < 2 ^ 63 := Nat.xor_lt_two_pow (by omega) (by omega)
  omega
end Go.Proofs.YtipnalfkpalieaaDoor
