/-
  Plain words for memory, over any program: what a call leaves as it was (grownBy), a slice that reads as a list (Rd), a block known whole (Blk). No program is named here.
  A text cut at each place of a byte, as a list of texts; the number that one to three digits denote. Plain Lean, no program is walked here.
  Ways to choose, and the risk of an audit, as numbers. Plain Lean, no program is walked here.
  A region that draws its order, over any program: each operation is shown once, from what the operations before it (by the region's edges) have left, in whatever world of a class; what each has left is kept by every later step.
  A region that draws its order and whose last operations can only come last, in the order of the text: the first N as in the law of XFlow, the rest walked as they stand. Over any program.
  A region that draws its order, each of whose operations leaves a value that is known ahead; its calls may make memory.
  A region that draws its order: the values of the first operations are known ahead, the last operations can only come last.
  Contracts of the small functions of numbers: l6In, NodeSum.
  Ballots: l1Has, slices.Index, slices.Contains, BallotValid of the program and of the reference.
  append of one element to a slice of the call's own, over any program; and the facts on an element's type.
  BallotParse of the reference and of the program: the ballot of a text.
  append of all of a slice to a slice of the call's own, over any program; the slice may be nil or empty.
  Lots, plainly: what lots a seed draws, the first of some, the greatest count, those with the greatest count.
  Piles and what lists of piles come to together: plain Lean, no program is walked here.
  Piles, batches and precincts in memory, over any program: slices of structs.
  Maps from texts to integers, as data: which texts, and what stands at each; their texts in order.
  Records of the call's own, over any program: their list and the piles of each lie in blocks of their own; what a call that writes them leaves as it was (Span).
  append(append([]T, a..), b..) in a region that draws its order, over any program: how the slices read.
  A region that draws its order, over any program: as XFlow, where an operation may read a slot that another one, later by the region's edges, writes.
  A chain of appends beside other steps whose order is drawn, over any program: every row that the chain makes is the beginning of one list.
  The reader of a code (spec.l6Rd): opened over any bytes, asked for numbers. What a pick gives is only told to lie in its range.
  BallotText of the reference; a word drawn out of a list.
  How the arguments of a law are opened: slices of bytes, of integers, of strings.
  What an operation of a drawn region may leave, beside a reader: kept by every later step.
  The draws of sums: spec.l6Open, spec.DrawNodeSum.
-/
import Derived.WalkKit
import Derived.Deep.Draws
import Derived.Laws.OwnMore
import Derived.Laws.Rows
import Derived.Laws.Strings
import Derived.Laws.BitsAllLaws
import Derived.Laws.BitsLemmas
import Derived.Lib.Hide
import Derived.Lib.SplitLaws
import Derived.Lib.AtoiTie
import Derived.Lib.ItoaNum
import Derived.Orders
import Derived.Tactics2
import Derived.KernelRfl
import Derived.Test.YtboobimpoddacaaGreatDoorRows
import Derived.WalkLawsBesides
import Derived.WalkSpells
import Derived.Deep.QuietTactic
import Derived.BigQuiet
import Derived.Maps.AppendAt
import Derived.OwnWalk
import Derived.Laws.MakeOwn
import Derived.Maps.Own
import Derived.Maps.OwnOps
import Derived.Maps.Views
import Derived.WideShapes
import Derived.Sort.KeysCollected
import Derived.Laws.Append
import Derived.Laws.Tables
import Derived.ProofKit
import Derived.OpenShut
import Derived.SliceStrings
import Derived.Deep.RegionHeld3
import Derived.Deep.DrawnRows
namespace Go.Proofs.YtboobimpoddacaaGreatDoor
open Go.RowKit
set_option linter.unusedVariables false

theorem ret_int {k : IntKind} {a b : Int} (h : a = b) : Ending.returned (.int k a) = .returned (.int k b) := by rw [h]
theorem ret_bool {a b : Bool} (h : a = b) : Ending.returned (.bool a) = .returned (.bool b) := by rw [h]
theorem ret_str {a b : ByteArray} (h : a = b) : Ending.returned (.string a) = .returned (.string b) := by rw [h]

theorem getD_at {α : Type} {l : List α} {i : Nat} (d : α) (h : i < l.length) : l.getD i d = l[i] := by
  rw [List.getD_eq_getElem?_getD, List.getElem?_eq_getElem h]
  rfl

/-! ### texts -/
theorem str_ext {a b : ByteArray} (h : a.toList = b.toList) : a = b := by
  rw [ByteArray.toList_eq, ByteArray.toList_eq] at h
  exact ByteArray.ext (Array.toList_inj.1 h)
theorem str_ne {a b : ByteArray} (h : a ≠ b) : (a.toList == b.toList) = false := beq_eq_false_iff_ne.2 fun e => h (str_ext e)
theorem str_eq (a b : ByteArray) : (a.toList == b.toList) = decide (a = b) := by
  by_cases h : a = b
  · subst h; simp
  · rw [str_ne h, decide_eq_false h]

/-! ### what is kept -/
theorem gb_refl (w : World) (row : Option Nat) : w.grownBy w row := ⟨rfl, rfl, rfl, Nat.le_refl _, fun _ _ _ => rfl⟩
theorem gb_trans {a b c : World} {row : Option Nat} (h : a.grownBy b row) (k : b.grownBy c row) : a.grownBy c row :=
  ⟨k.os.trans h.os, k.tape.trans h.tape, k.output.trans h.output, Nat.le_trans h.size k.size, fun i hi hn => (k.block i (Nat.lt_of_lt_of_le hi h.size) hn).trans (h.block i hi hn)⟩
theorem gb_mono {a b : World} (h : a.grownBy b none) (row : Option Nat) : a.grownBy b row :=
  ⟨h.os, h.tape, h.output, h.size, fun i hi _ => h.block i hi (by simp)⟩
theorem gb_drew {a w : World} {row : Option Nat} (h : a.grownBy w row) : a.grownBy w.drew row := ⟨h.os, h.tape, h.output, h.size, h.block⟩
theorem gb_drewN {a w : World} {row : Option Nat} (h : a.grownBy w row) (n : Nat) : a.grownBy (w.drewN n) row := ⟨h.os, h.tape, h.output, h.size, h.block⟩
theorem gb_alloc {a w : World} {row : Option Nat} (h : a.grownBy w row) (o : Obj) : a.grownBy (w.alloc o) row :=
  ⟨h.os, h.tape, h.output, Nat.le_trans h.size (by simp), fun i hi hne => (Below.heap_alloc w o i (Nat.lt_of_lt_of_le hi h.size)).trans (h.block i hi hne)⟩
theorem gb_setCell {a w : World} {row : Option Nat} (h : a.grownBy w row) {p : Addr} (hp : row = some p.block ∨ a.heap.size ≤ p.block) (u : Value) : a.grownBy (w.setCell p u) row :=
  ⟨h.os, h.tape, h.output, by simpa [World.setCell] using h.size, fun i hi hne => (Below.heap_setCell w p u i (by
    rintro rfl
    rcases hp with hp | hp
    · exact hne hp.symm
    · omega)).trans (h.block i hi hne)⟩
/-- A step that may write row r, itself a block of the call's own. -/
theorem gb_step {a w w' : World} {row r : Option Nat} (h : a.grownBy w row) (k : w.grownBy w' r) (hr : ∀ g, r = some g → row = some g ∨ a.heap.size ≤ g) : a.grownBy w' row :=
  ⟨k.os.trans h.os, k.tape.trans h.tape, k.output.trans h.output, Nat.le_trans h.size k.size, fun i hi hn => (k.block i (Nat.lt_of_lt_of_le hi h.size) (by
    intro e
    rcases hr i e.symm with h1 | h1
    · exact hn h1.symm
    · omega)).trans (h.block i hi hn)⟩
theorem gb_below {a w : World} (h : a.grownBy w none) : Below a.heap.size a w := ⟨h.os, h.tape, h.output, h.size, fun i hi => h.block i hi (by simp)⟩
theorem gb_of_below {a w : World} (h : Below a.heap.size a w) (row : Option Nat) : a.grownBy w row := ⟨h.os, h.tape, h.output, h.size, fun i hi _ => h.block i hi⟩
theorem gb_cell {w w' : World} {row : Option Nat} (hg : w.grownBy w' row) {p : Addr} {v : Value} (h : w.cell? p = some v) (hne : some p.block ≠ row) : w'.cell? p = some v := hg.cell h hne

/-! ### a block known whole -/
def Blk (w : World) (g : Nat) (t : TypeId) (cs : Array Value) : Prop := w.heap[g]? = some (.cells cs t (0, 0))
section
variable {w w' : World} {g : Nat} {t : TypeId} {cs : Array Value}
theorem Blk.lt (h : Blk w g t cs) : g < w.heap.size := by
  rcases Nat.lt_or_ge g w.heap.size with hlt | hge
  · exact hlt
  · unfold Blk at h; rw [Array.getElem?_eq_none hge] at h; cases h
theorem Blk.cell (h : Blk w g t cs) (i : Nat) : w.cell? ⟨g, i, none⟩ = cs[i]? := cell_of_row w g i cs t (0, 0) h
theorem Blk.frozen (h : Blk w g t cs) (i : Nat) : w.frozen? ⟨g, i, none⟩ = false := by
  unfold Blk at h
  simp [World.frozen?, h]
theorem Blk.new (w : World) (t : TypeId) (cs : Array Value) : Blk (w.alloc (.cells cs t)) w.heap.size t cs := heap_alloc_new w _
theorem Blk.drewN (h : Blk w g t cs) (n : Nat) : Blk (w.drewN n) g t cs := h
theorem Blk.alloc (h : Blk w g t cs) (o : Obj) : Blk (w.alloc o) g t cs := (Below.heap_alloc w o g h.lt).trans h
theorem Blk.set_ (h : Blk w g t cs) (i : Nat) (u : Value) : Blk (w.setCell ⟨g, i, none⟩ u) g t (cs.setIfInBounds i u) := by
  unfold Blk at h ⊢
  simp [World.setCell, Array.getElem?_modify, h]
theorem Blk.far (h : Blk w g t cs) {p : Addr} (hp : g ≠ p.block) (u : Value) : Blk (w.setCell p u) g t cs := (Below.heap_setCell w p u g hp).trans h
theorem Blk.grown {row : Option Nat} (h : Blk w g t cs) (hb : w.grownBy w' row) (hg : some g ≠ row) : Blk w' g t cs := (hb.block g h.lt hg).trans h
end

/-! ### a slice that reads as a list of cells; lo: a bound below its block -/
def Rd (w : World) (lo size : Nat) (A : Option Addr) (n : Nat) (xs : List Value) : Prop :=
  xs.length = n * size ∧ (0 < n → ∃ b off, A = some ⟨b, off, none⟩ ∧ lo ≤ b ∧ b < w.heap.size ∧ ∀ j u, xs[j]? = some u → w.cell? ⟨b, off + j, none⟩ = some u)
section
variable {w w' : World} {lo size n : Nat} {A : Option Addr} {xs : List Value}
theorem Rd.nil (w : World) (lo size : Nat) (A : Option Addr) : Rd w lo size A 0 [] := ⟨by simp, fun h => absurd h (by omega)⟩
theorem Rd.ex (h : Rd w lo size A n xs) (hn : 0 < n) : ∃ b off, A = some ⟨b, off, none⟩ ∧ lo ≤ b ∧ b < w.heap.size ∧ ∀ j u, xs[j]? = some u → w.cell? ⟨b, off + j, none⟩ = some u := h.2 hn
theorem Rd.keep {row : Option Nat} (h : Rd w lo size A n xs) (hg : w.grownBy w' row) (hr : ∀ k, row = some k → k < lo) : Rd w' lo size A n xs :=
  ⟨h.1, fun hn => by
    obtain ⟨b, off, e, hl, hb, hc⟩ := h.2 hn
    exact ⟨b, off, e, hl, Nat.lt_of_lt_of_le hb hg.size, fun j u hu => gb_cell hg (hc j u hu) (fun e => by have := hr b e.symm; omega)⟩⟩
theorem Rd.keep0 (h : Rd w lo size A n xs) (hg : w.grownBy w' none) : Rd w' lo size A n xs := h.keep hg (by simp)
theorem Rd.mono {lo' : Nat} (h : Rd w lo size A n xs) (hl : lo' ≤ lo) : Rd w lo' size A n xs :=
  ⟨h.1, fun hn => by
    obtain ⟨b, off, e, h1, hb, hc⟩ := h.2 hn
    exact ⟨b, off, e, by omega, hb, hc⟩⟩
theorem Rd.of_own {e : TypeId} {v : Value} (h : w.ownsRow lo e size v n xs) : ∃ A c, v = .slice A n c ∧ n ≤ c ∧ c ≤ maxLen ∧ Rd w lo size A n xs := by
  obtain ⟨h1, h2⟩ := h
  rcases h2 with ⟨rfl, rfl⟩ | ⟨g, cap, cur, rfl, hg, hh, hn, hc, hs, ht⟩
  · exact ⟨_, _, rfl, Nat.le_refl _, Nat.zero_le _, h1, fun h => absurd h (by omega)⟩
  · refine ⟨_, _, rfl, hn, hc, h1, fun _ => ⟨g, 0, rfl, hg, (Blk.lt hh), fun j u hu => ?_⟩⟩
    rw [Nat.zero_add, cell_of_row w g j cur e (0, 0) hh]
    rw [← ht, List.getElem?_take] at hu
    split at hu
    · simpa using hu
    · cases hu
theorem Rd.cut {k cap : Nat} (h : Rd w lo size A n xs) (hk : k ≤ n) (hc : n ≤ cap) :
    Rd w lo size (if cap = k then A else A.map (·.add (k * size))) (n - k) (xs.drop (k * size)) := by
  refine ⟨by rw [List.length_drop, h.1, Nat.sub_mul], fun hn => ?_⟩
  obtain ⟨b, off, rfl, hl, hb, hcell⟩ := h.2 (by omega)
  rw [if_neg (by omega)]
  refine ⟨b, off + k * size, ?_, hl, hb, fun j u hu => ?_⟩
  · simp only [Option.map_some, Addr.add]
    by_cases hk0 : k * size = 0 <;> simp [hk0]
  · rw [Nat.add_assoc]
    exact hcell _ u (by rw [← hu, List.getElem?_drop])
theorem Rd.take {k : Nat} (h : Rd w lo size A n xs) (hk : k ≤ n) : Rd w lo size A k (xs.take (k * size)) := by
  refine ⟨by rw [List.length_take, h.1]; exact Nat.min_eq_left (Nat.mul_le_mul_right _ hk), fun hn => ?_⟩
  obtain ⟨b, off, rfl, hl, hb, hcell⟩ := h.2 (by omega)
  refine ⟨b, off, rfl, hl, hb, fun j u hu => hcell j u ?_⟩
  rw [List.getElem?_take] at hu
  split at hu
  · exact hu
  · cases hu
end

/-! ### slices by their elements -/
/-- A slice of n elements, 'size' cells each. -/
def Sl (w : World) (lo size : Nat) (A : Option Addr) (n cap : Nat) (cs : List Value) : Prop := n ≤ cap ∧ cap ≤ maxLen ∧ Rd w lo size A n cs
/-- A slice of ints. -/
def Ints (w : World) (lo : Nat) (A : Option Addr) (n cap : Nat) (xs : List Int) : Prop := Sl w lo 1 A n cap (xs.map (Value.int .i64))
/-- A slice of strings. -/
def Strs (w : World) (lo : Nat) (A : Option Addr) (n cap : Nat) (xs : List ByteArray) : Prop := Sl w lo 1 A n cap (xs.map Value.string)
section
variable {w w' : World} {lo lo' size n cap k : Nat} {A : Option Addr} {cs : List Value}
theorem Sl.le (h : Sl w lo size A n cap cs) : n ≤ cap := h.1
theorem Sl.max (h : Sl w lo size A n cap cs) : cap ≤ 9223372036854775807 := by have := h.2.1; unfold maxLen at this; exact this
theorem Sl.keep {row : Option Nat} (h : Sl w lo size A n cap cs) (hg : w.grownBy w' row) (hr : ∀ k, row = some k → k < lo) : Sl w' lo size A n cap cs := ⟨h.1, h.2.1, h.2.2.keep hg hr⟩
theorem Sl.keep0 (h : Sl w lo size A n cap cs) (hg : w.grownBy w' none) : Sl w' lo size A n cap cs := ⟨h.1, h.2.1, h.2.2.keep0 hg⟩
theorem Sl.mono (h : Sl w lo size A n cap cs) (hl : lo' ≤ lo) : Sl w lo' size A n cap cs := ⟨h.1, h.2.1, h.2.2.mono hl⟩
theorem Sl.drewN (h : Sl w lo size A n cap cs) (m : Nat) : Sl (w.drewN m) lo size A n cap cs := h
theorem Sl.of_own {e : TypeId} {v : Value} (h : w.ownsRow lo e size v n cs) : ∃ A c, v = .slice A n c ∧ Sl w lo size A n c cs := by
  obtain ⟨A, c, rfl, h1, h2, h3⟩ := Rd.of_own h
  exact ⟨A, c, rfl, h1, h2, h3⟩
theorem Sl.own {e : TypeId} (h : w.ownsRow lo e size (.slice A n cap) n cs) : Sl w lo size A n cap cs := by
  obtain ⟨A', c', he, hs⟩ := Sl.of_own h
  injection he with h1 h2 h3
  subst h1 h3
  exact hs
theorem Sl.at1 (h : Sl w lo 1 A n cap cs) (hk : k < n) : ∃ b off u, A = some ⟨b, off, none⟩ ∧ Hid (cs[k]? = some u) ∧ w.cell? ⟨b, off + k, none⟩ = some u := by
  obtain ⟨b, off, rfl, _, _, hc⟩ := h.2.2.ex (by omega)
  have hl : k < cs.length := by have := h.2.2.1; omega
  exact ⟨b, off, cs[k], rfl, Lib.hid (List.getElem?_eq_getElem hl), hc k _ (List.getElem?_eq_getElem hl)⟩
theorem Ints.len {xs : List Int} (h : Ints w lo A n cap xs) : xs.length = n := by have := h.2.2.1; simpa using this
theorem Strs.len {xs : List ByteArray} (h : Strs w lo A n cap xs) : xs.length = n := by have := h.2.2.1; simpa using this
theorem Ints.at_ {xs : List Int} (h : Ints w lo A n cap xs) (hk : k < n) : ∃ b off z, A = some ⟨b, off, none⟩ ∧ Hid (xs[k]? = some z) ∧ w.cell? ⟨b, off + k, none⟩ = some (.int .i64 z) := by
  obtain ⟨b, off, u, e, hu, hc⟩ := Sl.at1 h hk
  have hu := hu.out
  rw [List.getElem?_map] at hu
  cases hx : xs[k]? with
  | none => rw [hx] at hu; cases hu
  | some z => rw [hx] at hu; injection hu with hu; subst hu; exact ⟨b, off, z, e, Lib.hid rfl, hc⟩
theorem Strs.at_ {xs : List ByteArray} (h : Strs w lo A n cap xs) (hk : k < n) : ∃ b off z, A = some ⟨b, off, none⟩ ∧ Hid (xs[k]? = some z) ∧ w.cell? ⟨b, off + k, none⟩ = some (.string z) := by
  obtain ⟨b, off, u, e, hu, hc⟩ := Sl.at1 h hk
  have hu := hu.out
  rw [List.getElem?_map] at hu
  cases hx : xs[k]? with
  | none => rw [hx] at hu; cases hu
  | some z => rw [hx] at hu; injection hu with hu; subst hu; exact ⟨b, off, z, e, Lib.hid rfl, hc⟩
theorem drop_cons' {α : Type} {xs : List α} {u : Nat} {z : α} (h : xs[u]? = some z) : xs.drop u = z :: xs.drop (u + 1) := by
  obtain ⟨hu, e⟩ := List.getElem?_eq_some_iff.1 h
  rw [List.drop_eq_getElem_cons hu, e]
theorem take_succ_of {α : Type} {l : List α} {k : Nat} {z : α} (h : l[k]? = some z) : l.take (k + 1) = l.take k ++ [z] := by
  rw [List.take_add_one, h]; rfl
end

/-! ### xor of numbers that are not below 0 -/
theorem ofInt_i64 (a : Nat) (ha : a < 9223372036854775808) : (BitVec.ofInt 64 (a : Int)).toNat = a := by
  rw [BitVec.ofInt_natCast, BitVec.toNat_ofNat]; exact Nat.mod_eq_of_lt (by omega)
theorem i64_xor_nat (a b : Nat) (ha : a < 9223372036854775808) (hb : b < 9223372036854775808) : bits .xor .i64 (a : Int) (b : Int) = ((a ^^^ b : Nat) : Int) := by
  have hx : a ^^^ b < 2 ^ 63 := Nat.xor_lt_two_pow (by omega) (by omega)
  show IntKind.i64.wrap ((BitVec.ofInt 64 (a : Int) ^^^ BitVec.ofInt 64 (b : Int)).toNat : Int) = _
  rw [BitVec.toNat_xor, ofInt_i64 a ha, ofInt_i64 b hb, IntKind.wrap_i64]
  omega
theorem xor_nonneg (a b : Int) (ha : 0 ≤ a) (hb : 0 ≤ b) (ha' : a < 9223372036854775808) (hb' : b < 9223372036854775808) : 0 ≤ bits .xor .i64 a b ∧ bits .xor .i64 a b < 9223372036854775808 := by
  obtain ⟨x, rfl⟩ := Int.eq_ofNat_of_zero_le ha
  obtain ⟨y, rfl⟩ := Int.eq_ofNat_of_zero_le hb
  rw [i64_xor_nat x y (by omega) (by omega)]
  have hx : x ^^^ y < 2 ^ 63 := Nat.xor_lt_two_pow (by omega) (by omega)
  omega
end Go.Proofs.YtboobimpoddacaaGreatDoor

namespace Go.Proofs.YtboobimpoddacaaGreatDoor
open Go.RowKit
set_option linter.unusedVariables false

/-! ### cutting -/
/-- The pieces of a list between the places of c. -/
def cutL (c : UInt8) : List UInt8 → List (List UInt8)
  | [] => [[]]
  | x :: l => if x = c then [] :: cutL c l else match cutL c l with
    | h :: t => (x :: h) :: t
    | [] => [[x]]
theorem cutL_ne (c : UInt8) (l : List UInt8) : cutL c l ≠ [] := by
  cases l with
  | nil => simp [cutL]
  | cons x l =>
    rw [cutL]
    split
    · simp
    · split <;> simp
theorem cutL_other {c x : UInt8} {l h : List UInt8} {t : List (List UInt8)} (hx : x ≠ c) (e : cutL c l = h :: t) : cutL c (x :: l) = (x :: h) :: t := by
  rw [cutL, if_neg hx, e]
theorem cutL_none {c : UInt8} : ∀ {a : List UInt8}, c ∉ a → cutL c a = [a]
  | [], _ => rfl
  | x :: a, h => by
    simp only [List.mem_cons, not_or] at h
    exact cutL_other (fun e => h.1 e.symm) (cutL_none h.2)
theorem cutL_hit {c : UInt8} : ∀ {a : List UInt8} (b : List UInt8), c ∉ a → cutL c (a ++ c :: b) = a :: cutL c b
  | [], b, _ => by rw [List.nil_append, cutL, if_pos rfl]
  | x :: a, b, h => by
    simp only [List.mem_cons, not_or] at h
    exact cutL_other (fun e => h.1 e.symm) (cutL_hit b h.2)
theorem cutL_mem {c : UInt8} : ∀ {l : List UInt8}, ∀ p ∈ cutL c l, c ∉ p ∧ p.length ≤ l.length
  | [], p, hp => by simp [cutL] at hp; subst hp; simp
  | x :: l, p, hp => by
    rw [cutL] at hp
    split at hp
    · rcases List.mem_cons.1 hp with h | h
      · subst h; simp
      · have := cutL_mem p h
        exact ⟨this.1, by rw [List.length_cons]; omega⟩
    · rename_i hx
      split at hp
      · rename_i h t e
        rcases List.mem_cons.1 hp with h1 | h1
        · subst h1
          have := cutL_mem (c := c) (l := l) h (by rw [e]; simp)
          refine ⟨?_, by rw [List.length_cons, List.length_cons]; omega⟩
          simp only [List.mem_cons, not_or]
          exact ⟨fun e' => hx e'.symm, this.1⟩
        · have := cutL_mem (c := c) (l := l) p (by rw [e]; simp [h1])
          exact ⟨this.1, by rw [List.length_cons]; omega⟩
      · rename_i e
        exact absurd e (cutL_ne c l)
theorem cutL_len (c : UInt8) : ∀ l : List UInt8, (cutL c l).length ≤ l.length + 1
  | [] => by simp [cutL]
  | x :: l => by
    have ih := cutL_len c l
    rw [cutL]
    split
    · simp only [List.length_cons]; omega
    · split
      · rename_i h t e
        rw [e] at ih
        simp only [List.length_cons] at ih ⊢
        omega
      · simp
theorem cutL_app {c : UInt8} : ∀ {a b : List UInt8} {p : List (List UInt8)} {z : List UInt8}, cutL c a = p ++ [z] → cutL c (a ++ b) = p ++ (match cutL c b with | h :: t => (z ++ h) :: t | [] => [])
  | [], b, p, z, h => by
    have hp : p = [] ∧ z = [] := by
      rw [cutL] at h
      cases p with
      | nil => simp at h; exact ⟨rfl, by simpa using h.symm⟩
      | cons q p =>
        have := congrArg List.length h
        simp at this
    obtain ⟨rfl, rfl⟩ := hp
    rw [List.nil_append, List.nil_append]
    cases e : cutL c b with
    | nil => exact absurd e (cutL_ne c b)
    | cons x t => rfl
  | x :: a, b, p, z, h => by
    rw [cutL] at h
    rw [List.cons_append]
    split at h
    · rename_i hx
      rw [cutL, if_pos hx]
      cases p with
      | nil =>
        have := congrArg List.length h
        have h2 := cutL_ne c a
        cases e : cutL c a with
        | nil => exact absurd e h2
        | cons y t => rw [e] at this; simp at this
      | cons q p =>
        simp only [List.cons_append, List.cons.injEq] at h
        rw [cutL_app h.2, ← h.1]
        rfl
    · rename_i hx
      split at h
      · rename_i y t e
        cases p with
        | nil =>
          simp only [List.nil_append, List.cons.injEq] at h
          obtain ⟨h1, h2⟩ := h
          subst h2
          have ih := cutL_app (c := c) (a := a) (b := b) (p := []) (z := y) e
          cases eb : cutL c b with
          | nil => exact absurd eb (cutL_ne c b)
          | cons u v =>
            rw [eb] at ih
            rw [cutL_other hx ih, ← h1]
            rfl
        | cons q p =>
          simp only [List.cons_append, List.cons.injEq] at h
          obtain ⟨h1, h2⟩ := h
          have ih := cutL_app (c := c) (a := a) (b := b) (p := y :: p) (z := z) (by rw [e, h2]; rfl)
          rw [List.cons_append] at ih
          rw [cutL_other hx ih, ← h1]
          rfl
      · rename_i e
        exact absurd e (cutL_ne c a)
theorem cutL_snoc {c : UInt8} {a b : List UInt8} {p : List (List UInt8)} {z : List UInt8} (h : cutL c a = p ++ [z]) (hb : c ∉ b) : cutL c (a ++ b ++ [c]) = p ++ [z ++ b, []] := by
  have h1 := cutL_app (b := b) h
  rw [cutL_none hb] at h1
  have h2 := cutL_app (b := [c]) h1
  rw [h2]
  have : cutL c [c] = [[], []] := by rw [cutL, if_pos rfl]; rfl
  rw [this]
  simp

/-- The library's pieces are these. -/
theorem splitK_cut (c : UInt8) : ∀ l : List UInt8, Lib.splitK [c] 0 (Lib.count l [c]) l = cutL c l
  | [] => by rw [Lib.count_miss (by simp [Lib.index])]; rfl
  | b :: l => by
    have ih := splitK_cut c l
    by_cases hb : b = c
    · subst hb
      have hix : Lib.index (b :: l) [b] = ((0 : Nat) : Int) := by rw [Lib.index]; simp [List.isPrefixOf]
      rw [Lib.count_cons_eq, Nat.add_comm, Lib.splitK, hix, cutL, if_pos rfl, ← ih]
      simp
    · have hp : ([c] : List UInt8).isPrefixOf (b :: l) = false := by simp [List.isPrefixOf, Ne.symm hb]
      have hix : Lib.index (b :: l) [c] = if Lib.index l [c] == -1 then -1 else Lib.index l [c] + 1 := by rw [Lib.index, hp]; simp
      rw [Lib.count_cons_ne b c l hb]
      cases hk : Lib.count l [c] with
      | zero =>
        rw [hk] at ih
        rw [Lib.splitK] at ih ⊢
        exact (cutL_other hb ih.symm).symm
      | succ k =>
        rw [hk] at ih
        have hne : ¬ Lib.index l [c] = -1 := fun e => by rw [Lib.count_miss e] at hk; cases hk
        have hge := Lib.index_ge l [c]
        obtain ⟨j, hj⟩ : ∃ j : Nat, Lib.index l [c] = j := ⟨(Lib.index l [c]).toNat, by omega⟩
        have hix' : Lib.index (b :: l) [c] = ((j + 1 : Nat) : Int) := by rw [hix, if_neg (fun e => hne (beq_iff_eq.1 e)), hj]; omega
        rw [Lib.splitK, if_neg (by rw [hj]; simp), hj] at ih
        rw [Lib.splitK, if_neg (by rw [hix']; simp; omega), hix', cutL_other hb ih.symm]
        simp

/-- A text's pieces. -/
def cut (c : UInt8) (s : ByteArray) : List ByteArray := (cutL c s.data.toList).map fun l => ⟨l.toArray⟩
theorem ba_list (s : ByteArray) : (⟨s.data.toList.toArray⟩ : ByteArray) = s := by cases s; simp
theorem ba_inj {a b : ByteArray} (h : a.data.toList = b.data.toList) : a = b := by rw [← ba_list a, ← ba_list b, h]
theorem splitB_cut (c : UInt8) (s : ByteArray) : Lib.splitB ⟨#[c]⟩ 0 (Lib.countB s ⟨#[c]⟩) s = cut c s := by
  have h := Lib.splitB_data ⟨#[c]⟩ 0 (Lib.countB s ⟨#[c]⟩) s
  have hc : Lib.countB s ⟨#[c]⟩ = Lib.count s.data.toList [c] := rfl
  rw [hc] at h ⊢
  have h' : (Lib.splitB ⟨#[c]⟩ 0 (Lib.count s.data.toList [c]) s).map (·.data.toList) = cutL c s.data.toList := h.trans (splitK_cut c _)
  unfold cut
  rw [← h', List.map_map]
  have key : ∀ xs : List ByteArray, xs = xs.map ((fun l : List UInt8 => (⟨l.toArray⟩ : ByteArray)) ∘ fun x => x.data.toList) := by
    intro xs
    induction xs with
    | nil => rfl
    | cons x xs ih => rw [List.map_cons, ← ih]; exact congrArg (· :: xs) (ba_list x).symm
  exact key _
theorem cut_len (c : UInt8) (s : ByteArray) : (cut c s).length ≤ s.size + 1 := by
  unfold cut
  rw [List.length_map]
  exact cutL_len c _
theorem cut_pos (c : UInt8) (s : ByteArray) : 1 ≤ (cut c s).length := by
  unfold cut
  rw [List.length_map]
  cases h : cutL c s.data.toList with
  | nil => exact absurd h (cutL_ne c _)
  | cons x t => simp
theorem cut_size {c : UInt8} {s p : ByteArray} (h : p ∈ cut c s) : p.size ≤ s.size := by
  obtain ⟨l, hl, rfl⟩ := List.mem_map.1 h
  have := (cutL_mem l hl).2
  show l.toArray.size ≤ s.data.size
  rw [List.size_toArray, ← Array.length_toList]
  exact this
theorem split_count (c : UInt8) (s : ByteArray) : Lib.countB s ⟨#[c]⟩ + 1 = (cut c s).length := by
  rw [← splitB_cut]
  exact (Lib.splitB_all ⟨#[c]⟩ (Nat.le_refl 1) 0 _ s rfl).symm

/-! ### numbers of one to three digits -/
/-- The reference's: the number of one to three digits with no zero ahead, or -1. -/
def numL (l : List UInt8) : Int :=
  if 1 ≤ l.length ∧ l.length ≤ 3 ∧ ¬ (1 < l.length ∧ l[0]? = some 48) then match Lib.decFrom 0 l with
    | some n => (n : Int)
    | none => -1
  else -1
/-- The program's: Atoi's number, where it lies from 0 to 999 and Itoa gives the text back. -/
def numI (l : List UInt8) : Int := match Lib.atoiAll l with
  | .ok v => if v < 0 ∨ 999 < v ∨ Lib.itoa v ≠ l then -1 else v
  | _ => -1
def d3 (n : Nat) : List UInt8 :=
  if n < 10 then [UInt8.ofNat (48 + n)] else if n < 100 then [UInt8.ofNat (48 + n / 10), UInt8.ofNat (48 + n % 10)]
  else [UInt8.ofNat (48 + n / 100), UInt8.ofNat (48 + n / 10 % 10), UInt8.ofNat (48 + n % 10)]
theorem decDigits_d3 {n : Nat} (h : n < 1000) : Lib.decDigits n = d3 n := by
  unfold d3
  rw [Lib.decDigits]
  split
  · rfl
  · rw [Lib.decDigits]
    split
    · rw [if_pos (by omega)]; rfl
    · rw [if_neg (by omega), Lib.decDigits, dif_pos (by omega), Nat.div_div_eq_div_mul]; rfl
theorem d3_len {n : Nat} : 1 ≤ (d3 n).length ∧ (d3 n).length ≤ 3 := by
  unfold d3
  split
  · simp
  · split <;> simp
theorem d3_two : ∀ a b : Fin 10, (d3 (a.val * 10 + b.val) = [UInt8.ofNat (48 + a.val), UInt8.ofNat (48 + b.val)]) ↔ a.val ≠ 0 := by decide +kernel
theorem d3_three : ∀ a b c : Fin 10, (d3 ((a.val * 10 + b.val) * 10 + c.val) = [UInt8.ofNat (48 + a.val), UInt8.ofNat (48 + b.val), UInt8.ofNat (48 + c.val)]) ↔ a.val ≠ 0 := by decide +kernel
theorem digit_of {b : UInt8} {d : Nat} (h : Lib.digitVal b = some d) : d < 10 ∧ b = UInt8.ofNat (48 + d) := by
  obtain ⟨h1, h2, h3⟩ := Lib.digitVal_eq h
  refine ⟨by omega, ?_⟩
  rw [h3, show 48 + (b.toNat - 48) = b.toNat by omega]
  exact UInt8.ofNat_toNat.symm
theorem digit_zero {d : Nat} (h : d < 10) : UInt8.ofNat (48 + d) = 48 ↔ d = 0 := by
  constructor
  · intro e
    have := congrArg UInt8.toNat e
    rw [UInt8.toNat_ofNat'] at this
    have h48 : (48 : UInt8).toNat = 48 := rfl
    omega
  · rintro rfl; rfl
theorem head_zero {x : Nat} {p : Prop} (hx : x < 10) (hp : p) : x ≠ 0 ↔ ¬ (p ∧ some (UInt8.ofNat (48 + x)) = some 48) := by
  constructor
  · rintro h ⟨_, e⟩
    exact h ((digit_zero hx).1 (Option.some.inj e))
  · intro h e
    exact h ⟨hp, congrArg some ((digit_zero hx).2 e)⟩
theorem dec_back {l : List UInt8} {m : Nat} (h1 : 1 ≤ l.length) (h3 : l.length ≤ 3) (h : Lib.decFrom 0 l = some m) : m < 1000 ∧ (Lib.decDigits m = l ↔ ¬ (1 < l.length ∧ l[0]? = some 48)) := by
  have hm : m < 1000 := by
    have := Lib.decFrom_lt l 0 m h
    have hp : 10 ^ l.length ≤ 10 ^ 3 := Nat.pow_le_pow_right (by decide) h3
    omega
  refine ⟨hm, ?_⟩
  rw [decDigits_d3 hm]
  match l, h1, h3, h with
  | [a], _, _, h =>
    simp only [Lib.decFrom] at h
    cases ha : Lib.digitVal a with
    | none => rw [ha] at h; cases h
    | some x =>
      rw [ha] at h
      obtain ⟨hx, rfl⟩ := digit_of ha
      simp only [Nat.zero_mul, Nat.zero_add, Option.some.injEq] at h
      subst h
      unfold d3
      rw [if_pos hx]
      simp
  | [a, b], _, _, h =>
    simp only [Lib.decFrom] at h
    cases ha : Lib.digitVal a with
    | none => rw [ha] at h; cases h
    | some x =>
      rw [ha] at h
      simp only at h
      cases hb : Lib.digitVal b with
      | none => rw [hb] at h; cases h
      | some y =>
        rw [hb] at h
        obtain ⟨hx, rfl⟩ := digit_of ha
        obtain ⟨hy, rfl⟩ := digit_of hb
        simp only [Nat.zero_mul, Nat.zero_add, Option.some.injEq] at h
        subst h
        rw [d3_two ⟨x, hx⟩ ⟨y, hy⟩]
        show x ≠ 0 ↔ ¬ (1 < 2 ∧ some (UInt8.ofNat (48 + x)) = some 48)
        exact head_zero hx (by decide)
  | [a, b, c], _, _, h =>
    simp only [Lib.decFrom] at h
    cases ha : Lib.digitVal a with
    | none => rw [ha] at h; cases h
    | some x =>
      rw [ha] at h
      simp only at h
      cases hb : Lib.digitVal b with
      | none => rw [hb] at h; cases h
      | some y =>
        rw [hb] at h
        simp only at h
        cases hc : Lib.digitVal c with
        | none => rw [hc] at h; cases h
        | some z =>
          rw [hc] at h
          obtain ⟨hx, rfl⟩ := digit_of ha
          obtain ⟨hy, rfl⟩ := digit_of hb
          obtain ⟨hz, rfl⟩ := digit_of hc
          simp only [Nat.zero_mul, Nat.zero_add, Option.some.injEq] at h
          subst h
          rw [d3_three ⟨x, hx⟩ ⟨y, hy⟩ ⟨z, hz⟩]
          show x ≠ 0 ↔ ¬ (1 < 3 ∧ some (UInt8.ofNat (48 + x)) = some 48)
          exact head_zero hx (by decide)
theorem decFrom_sign {b : UInt8} {r : List UInt8} (h : b = 45 ∨ b = 43) : Lib.decFrom 0 (b :: r) = none := by
  have : Lib.digitVal b = none := by rcases h with rfl | rfl <;> rfl
  simp only [Lib.decFrom, this]
theorem d3_head {m : Nat} {b : UInt8} {r : List UInt8} (hm : m < 1000) (h : d3 m = b :: r) : b ≠ 45 ∧ b ≠ 43 := by
  have key : ∀ m : Fin 1000, (d3 m.val)[0]? ≠ some 45 ∧ (d3 m.val)[0]? ≠ some 43 := by decide +kernel
  have := key ⟨m, hm⟩
  simp only [h, List.getElem?_cons_zero, ne_eq, Option.some.injEq] at this
  exact this
theorem numI_eq (l : List UInt8) : numI l = numL l := by
  by_cases hlen : 1 ≤ l.length ∧ l.length ≤ 3
  · obtain ⟨h1, h3⟩ := hlen
    unfold numI
    rw [Lib.atoiAll_short l (by omega)]
    obtain ⟨b, r, rfl⟩ : ∃ b r, l = b :: r := by
      cases l with
      | nil => simp at h1
      | cons b r => exact ⟨b, r, rfl⟩
    by_cases hs : b = 45 ∨ b = 43
    · have hL : numL (b :: r) = -1 := by
        unfold numL
        rw [decFrom_sign hs]
        split <;> rfl
      rw [hL]
      cases ha : Lib.atoi (b :: r) with
      | none => rfl
      | some v =>
        show (if v < 0 ∨ 999 < v ∨ Lib.itoa v ≠ b :: r then -1 else v) = -1
        rw [if_pos]
        by_cases hv : 0 ≤ v ∧ v ≤ 999
        · refine .inr (.inr (fun e => ?_))
          unfold Lib.itoa at e
          rw [if_neg (by omega), decDigits_d3 (by omega)] at e
          have := d3_head (by omega) e
          rcases hs with h | h
          · exact this.1 h
          · exact this.2 h
        · omega
    · have ha : Lib.atoi (b :: r) = (Lib.decFrom 0 (b :: r)).map fun (m : Nat) => (m : Int) := by
        simp only [Lib.atoi, Lib.decNat]
        rw [if_neg (by simpa using fun e => hs (.inl e)), if_neg (by simpa using fun e => hs (.inr e))]
        rfl
      rw [ha]
      unfold numL
      cases hd : Lib.decFrom 0 (b :: r) with
      | none =>
        simp only [Option.map_none, Lib.NumEnd.ofOption]
        split <;> rfl
      | some m =>
        obtain ⟨hm, hback⟩ := dec_back h1 h3 hd
        simp only [Option.map_some, Lib.NumEnd.ofOption]
        have hit : Lib.itoa (m : Int) = Lib.decDigits m := by unfold Lib.itoa; rw [if_neg (by omega)]; rfl
        rw [hit]
        by_cases hz : 1 < (b :: r).length ∧ (b :: r)[0]? = some 48
        · rw [if_pos (.inr (.inr (fun e => (hback.1 e) hz))), if_neg (fun h => h.2.2 hz)]
        · rw [if_neg (by
            rintro (h | h | h)
            · omega
            · omega
            · exact h (hback.2 hz)), if_pos ⟨h1, h3, hz⟩]
  · have hL : numL l = -1 := by unfold numL; rw [if_neg (fun h => hlen ⟨h.1, h.2.1⟩)]
    rw [hL]
    unfold numI
    split
    · rename_i v _
      rw [if_pos]
      by_cases hv : 0 ≤ v ∧ v ≤ 999
      · refine .inr (.inr (fun e => ?_))
        unfold Lib.itoa at e
        rw [if_neg (by omega), decDigits_d3 (by omega)] at e
        have := d3_len (n := v.toNat)
        rw [e] at this
        exact hlen this
      · omega
    · rfl
theorem numL_range (l : List UInt8) : -1 ≤ numL l ∧ numL l ≤ 999 := by
  unfold numL
  split
  · rename_i h
    split
    · rename_i m hd
      have := (dec_back h.1 h.2.1 hd).1
      omega
    · omega
  · omega
/-- The number that a text denotes. -/
def num (s : ByteArray) : Int := numL s.data.toList
theorem num_range (s : ByteArray) : -1 ≤ num s ∧ num s ≤ 999 := numL_range _
end Go.Proofs.YtboobimpoddacaaGreatDoor

namespace Go.Proofs.YtboobimpoddacaaGreatDoor
open Go.RowKit
set_option linter.unusedVariables false

/-- The program's product: k factors of n, n-1, .. -/
def binI (n : Nat) : Nat → Nat
  | 0 => 1
  | k + 1 => binI n k * (n - k) / (k + 1)
/-- The reference's product: k factors m+1, m+2, .. -/
def binS (m : Nat) : Nat → Nat
  | 0 => 1
  | k + 1 => binS m k * (m + (k + 1)) / (k + 1)
theorem bin_table : ∀ n : Fin 21, ∀ k : Fin 21, k.val ≤ n.val → binS (n.val - k.val) k.val = binI n.val k.val ∧ binI n.val k.val ≤ 184756 := by decide +kernel
theorem binS_table : ∀ m : Fin 21, ∀ k : Fin 21, m.val + k.val ≤ 20 → binS m.val k.val ≤ 184756 := by decide +kernel
/-- The ways to take k of n. -/
def bin (n k : Nat) : Nat := if n < k then 0 else binI n k
theorem binI_le {n k : Nat} (hn : n ≤ 20) (hk : k ≤ n) : binI n k ≤ 184756 := (bin_table ⟨n, by omega⟩ ⟨k, by omega⟩ hk).2
theorem binS_eq {n k : Nat} (hn : n ≤ 20) (hk : k ≤ n) : binS (n - k) k = binI n k := (bin_table ⟨n, by omega⟩ ⟨k, by omega⟩ hk).1
theorem binS_le {m k : Nat} (h : m + k ≤ 20) : binS m k ≤ 184756 := binS_table ⟨m, by omega⟩ ⟨k, by omega⟩ h
theorem bin_le {n k : Nat} (hn : n ≤ 20) : bin n k ≤ 184756 := by
  unfold bin
  split
  · omega
  · exact binI_le hn (by omega)
/-- One kind of sample: i ballots of the winner's. -/
def oneWay (n W k i : Nat) : Nat := bin W i * bin (n - W) (k - i)
theorem oneWay_le {n W k i : Nat} (hn : n ≤ 20) (hW : W ≤ n) : oneWay n W k i ≤ 34134779536 := by
  have h1 := bin_le (n := W) (k := i) (by omega)
  have h2 := bin_le (n := n - W) (k := k - i) (by omega)
  exact Nat.le_trans (Nat.mul_le_mul h1 h2) (by decide)
/-- j kinds, from i0 ballots of the winner's on. -/
def waysFrom (n W k i0 : Nat) : Nat → Nat
  | 0 => 0
  | j + 1 => waysFrom n W k i0 j + oneWay n W k (i0 + j)
theorem waysFrom_le {n W k i0 : Nat} (hn : n ≤ 20) (hW : W ≤ n) : ∀ j, waysFrom n W k i0 j ≤ 34134779536 * j
  | 0 => by simp [waysFrom]
  | j + 1 => by
    have h1 := waysFrom_le (k := k) (i0 := i0) hn hW j
    have h2 := oneWay_le (k := k) (i := i0 + j) hn hW
    rw [waysFrom, Nat.mul_succ]
    omega
def ways (n W k : Nat) (least : Int) : Nat := waysFrom n W k least.toNat (k + 1 - least.toNat)
theorem ways_le {n W k : Nat} {least : Int} (hn : n ≤ 20) (hW : W ≤ n) (hk : k ≤ n) : ways n W k least ≤ 716830370256 := by
  have := waysFrom_le (k := k) (i0 := least.toNat) hn hW (k + 1 - least.toNat)
  unfold ways
  omega
/-- Are these numbers of ballots, and of a sample of them? -/
def sampleOK (n k : Int) : Bool := decide (1 ≤ n) && decide (n ≤ 20) && decide (0 ≤ k) && decide (k ≤ n)
theorem sampleOK_iff (n k : Int) : sampleOK n k = true ↔ 1 ≤ n ∧ n ≤ 20 ∧ 0 ≤ k ∧ k ≤ n := by
  unfold sampleOK
  simp only [Bool.and_eq_true, decide_eq_true_eq, and_assoc]
/-- The risk: so many samples of so many. -/
def riskWays (n k least : Int) : Int := if sampleOK n k then (ways n.toNat (n.toNat / 2) k.toNat least : Int) else -1
def riskAll (n k : Int) : Int := if sampleOK n k then (bin n.toNat k.toNat : Int) else -1
theorem riskWays_bounds (n k least : Int) : -1 ≤ riskWays n k least ∧ riskWays n k least ≤ 716830370256 := by
  unfold riskWays
  split
  · rename_i h
    rw [sampleOK_iff] at h
    have := ways_le (n := n.toNat) (W := n.toNat / 2) (k := k.toNat) (least := least) (by omega) (by omega) (by omega)
    omega
  · omega
theorem riskAll_bounds (n k : Int) : -1 ≤ riskAll n k ∧ riskAll n k ≤ 184756 := by
  unfold riskAll
  split
  · rename_i h
    rw [sampleOK_iff] at h
    have := bin_le (n := n.toNat) (k := k.toNat) (by omega)
    omega
  · omega
end Go.Proofs.YtboobimpoddacaaGreatDoor

namespace Go.Proofs.YtboobimpoddacaaGreatDoor
open Go.RowKit
set_option linter.unusedVariables false

/-- What is asked of one operation's outcome. -/
def flowUpon (P : Program) (F : Value → World → Prop) : Result Next → Prop
  | .ok (.value v) w' => F v w'
  | .ok .skip w' => F undef w'
  | .ok (.enter f args) w' => Calls P f args w' (fun e w'' => ∃ v, e = .returned v ∧ F v w'')
  | _ => False

/-- One operation, carried out from a frame and a world. -/
def flowOp (P : Program) (ops : Array Oper) (o : Oper) (a : Act) (w : World) (F : Value → World → Prop) : Prop :=
  if Region.wanted o (yielded ops a.tmps) then flowUpon P F ((execOp a.eval o).run P w) else F undef w

/-- The frame with the values 'u' in the slots that the operations write. -/
def flowAct (a : Act) (u : Nat → Value) : Nat → List Oper → Act
  | _, [] => a
  | k, o :: l => flowAct (a.put o.dst (u k)) u (k + 1) l

def upd (u : Nat → Value) (i : Nat) (v : Value) : Nat → Value := fun k => if k = i then v else u k

/-- The operations that must stand ahead of 'o'. -/
def flowPreds (o : Oper) : List Nat := (o.after.toList.filter fun e => Region.binds .any e).map (·.on)

/-- Each edge leads backwards; no two operations write one slot. -/
def flowB (l : List Oper) : Bool :=
  (l.zipIdx.all fun (o, i) => (flowPreds o).all (· < i)) && (l.zipIdx.all fun (o, i) => l.zipIdx.all fun (o', j) => i == j || (match o.dst with | some d => o'.dst != some d | none => true))

section
variable {P : Program} {Q : Exit → Act → World → Prop}

theorem flowAct_put (u : Nat → Value) (v : Value) (d : Option Tmp) : ∀ (l : List Oper) (k : Nat) (a : Act), (∀ o ∈ l, ∀ x, d = some x → o.dst ≠ some x) →
    flowAct (a.put d v) u k l = (flowAct a u k l).put d v := by
  intro l
  induction l with
  | nil => intro k a _; rfl
  | cons o l ih =>
    intro k a h
    have hc : (a.put d v).put o.dst (u k) = (a.put o.dst (u k)).put d v := Act.put_comm a v (u k) (fun x hx => h o (by simp) x hx)
    simp only [flowAct]
    rw [hc]
    exact ih (k + 1) _ (fun o' ho' => h o' (by simp [ho']))

theorem flowAct_congr (u u' : Nat → Value) : ∀ (l : List Oper) (k : Nat) (a : Act), (∀ j, k ≤ j → j < k + l.length → u j = u' j) → flowAct a u k l = flowAct a u' k l := by
  intro l
  induction l with
  | nil => intro k a _; rfl
  | cons o l ih =>
    intro k a h
    simp only [flowAct]
    rw [h k (Nat.le_refl _) (by simp)]
    exact ih (k + 1) _ (fun j h1 h2 => h j (by omega) (by simp; omega))

theorem Act.put_put (a : Act) (d : Option Tmp) (x y : Value) : (a.put d x).put d y = a.put d y := by
  cases d <;> simp [Act.put]

theorem flowAct_upd (u : Nat → Value) (v : Value) : ∀ (l : List Oper) (k : Nat) (a : Act) (i : Nat) (o : Oper), l[i]? = some o →
    (∀ j o', l[j]? = some o' → j ≠ i → ∀ x, o.dst = some x → o'.dst ≠ some x) → flowAct a (upd u (k + i) v) k l = (flowAct a u k l).put o.dst v := by
  intro l
  induction l with
  | nil => intro k a i o h _; simp at h
  | cons o1 l ih =>
    intro k a i o h hd
    cases i with
    | zero =>
      simp at h
      subst h
      simp only [flowAct, Nat.add_zero]
      have e1 : upd u k v k = v := by simp [upd]
      rw [e1, flowAct_congr (upd u k v) u l (k + 1) _ (fun j h1 h2 => by simp [upd]; omega)]
      have hne : ∀ o' ∈ l, ∀ x, o1.dst = some x → o'.dst ≠ some x := by
        intro o' ho' x hx
        obtain ⟨j, hj⟩ := List.mem_iff_getElem?.1 ho'
        exact hd (j + 1) o' (by simpa using hj) (by omega) x hx
      rw [← flowAct_put u v o1.dst l (k + 1) (a.put o1.dst (u k)) hne, Act.put_put]
    | succ i =>
      simp only [flowAct]
      have e1 : upd u (k + (i + 1)) v k = u k := by simp [upd]
      rw [e1]
      have := ih (k + 1) (a.put o1.dst (u k)) i o (by simpa using h) (fun j o' hj hne => hd (j + 1) o' (by simpa using hj) (by omega))
      rw [show k + (i + 1) = k + 1 + i from by omega]
      exact this

/-- At the start the slots hold what they hold. -/
theorem flowAct_self (a : Act) (u : Nat → Value) : ∀ (l : List Oper) (k : Nat), (∀ j o, l[j]? = some o → ∀ d, o.dst = some d → u (k + j) = a.tmps.getD d undef) → flowAct a u k l = a := by
  intro l
  induction l with
  | nil => intro k _; rfl
  | cons o l ih =>
    intro k h
    have h0 := h 0 o (by simp)
    have hp : a.put o.dst (u k) = a := by
      cases hd : o.dst with
      | none => rfl
      | some d =>
        have := h0 d hd
        simp only [Nat.add_zero] at this
        rw [this]
        simp only [Act.put]
        cases a with
        | mk tmps defers =>
          simp only [Act.mk.injEq, and_true]
          apply Array.ext_getElem?
          intro m
          by_cases hdm : d = m
          · subst hdm
            rcases Nat.lt_or_ge d tmps.size with hlt | hlt
            · rw [Array.getElem?_setIfInBounds_self_of_lt hlt, Array.getD_eq_getD_getElem?, Array.getElem?_eq_getElem hlt]
              rfl
            · rw [Array.getElem?_eq_none (by simp; omega), Array.getElem?_eq_none (by omega)]
          · rw [Array.getElem?_setIfInBounds_ne hdm]
    simp only [flowAct]
    rw [hp]
    refine ih (k + 1) (fun j o' hj d hd => ?_)
    have := h (j + 1) o' (by simpa using hj) d hd
    rw [← this]
    congr 1
    omega

/-- THE LAW. -/
theorem wp_region_flow {id : Nat} {l : List Oper} {a : Act} {w : World} (hm : P.follows .mixedOrders = true) (hB : flowB l = true)
    (C : Nat → World → Prop) (T : Nat → World → World → Prop) (φ : Nat → Value → World → Prop)
    (hC : C 0 w.drew)
    (hT : ∀ n x y, T n x y → C n x → C (n + 1) y)
    (hφ : ∀ n x y, T n x y → C n x → ∀ i v, φ i v x → φ i v y)
    (hstep : ∀ i o, l[i]? = some o → ∀ (n : Nat) (u : Nat → Value) (x : World), n < l.length → C n x → (∀ j ∈ flowPreds o, φ j (u j) x) →
      flowOp P l.toArray o (flowAct a u 0 l) x (fun v y => T n x y ∧ φ i v y))
    (hend : ∀ (n : Nat) (u : Nat → Value) (x : World), n ≤ l.length → C n x → (∀ i, i < l.length → φ i (u i) x) → Q .normal (flowAct a u 0 l) x) :
    (Code.region id l.toArray true).wp P Q a w := by
  simp only [flowB, Bool.and_eq_true, List.all_eq_true] at hB
  have hback : ∀ i o, l[i]? = some o → ∀ j ∈ flowPreds o, j < i := by
    intro i o hi j hj
    have := hB.1 (o, i) (List.mem_zipIdx_iff_getElem?.2 hi)
    simp only [decide_eq_true_eq] at this
    exact this j hj
  have hdist : ∀ (i : Nat) (o : Oper), l[i]? = some o → ∀ (j : Nat) (o' : Oper), l[j]? = some o' → j ≠ i → ∀ x, o.dst = some x → o'.dst ≠ some x := by
    intro i o hi j o' hj hne x hx hx'
    have := hB.2 (o, i) (List.mem_zipIdx_iff_getElem?.2 hi) (o', j) (List.mem_zipIdx_iff_getElem?.2 hj)
    simp [hx, hx'] at this
    omega
  have main : ∀ (fuel n : Nat) (listed : Array Bool) (u : Nat → Value) (x : World), n + fuel = l.length → listed.size = l.length → C n x → (∀ i, i < l.length → listed.getD i false = true → φ i (u i) x) →
      (l.length ≤ fuel + ((List.range l.length).filter fun i => listed.getD i false).length) →
      wpAny P .any l.toArray Q fuel listed (flowAct a u 0 l) x := by
    intro fuel
    have allListed : ∀ (listed : Array Bool), listed.size = l.length → Region.ready .any l.toArray listed = [] → ∀ i, i < l.length → listed.getD i false = true := by
      intro listed hsz hr i
      induction i using Nat.strongRecOn with
      | _ i ih =>
        intro hi
        cases hl : listed.getD i false with
        | true => rfl
        | false =>
          have hmem : i ∈ Region.ready .any l.toArray listed := by
            unfold Region.ready
            rw [List.mem_filter]
            refine ⟨by simpa using hi, ?_⟩
            have ho : l[i]? = some l[i] := List.getElem?_eq_getElem hi
            have h1 : listed.getD i true = false := by
              have hlt : i < listed.size := by omega
              rw [Array.getD_eq_getD_getElem?, Array.getElem?_eq_getElem hlt] at hl ⊢
              simpa using hl
            simp only [List.getElem?_toArray, ho, Option.map_some, Option.getD_some, h1, Bool.not_false, Bool.true_and]
            rw [← Array.all_toList, List.all_eq_true]
            intro e he
            cases hb : Region.binds .any e with
            | false => simp
            | true =>
              have hj : e.on ∈ flowPreds l[i] := List.mem_map.2 ⟨e, List.mem_filter.2 ⟨he, hb⟩, rfl⟩
              have hlt := hback i _ ho _ hj
              simp only [Bool.not_true, Bool.false_or]
              exact ih e.on hlt (by omega)
          rw [hr] at hmem
          cases hmem
    induction fuel with
    | zero =>
      intro n listed u x hnf hsz hCx hf hcount
      have hall : ∀ i, i < l.length → listed.getD i false = true := by
        intro i hi
        cases hl : listed.getD i false with
        | true => rfl
        | false =>
          have hlen : ((List.range l.length).filter fun i => listed.getD i false).length < l.length := by
            have h1 := (List.length_filter_lt_length_iff_exists (p := fun i => listed.getD i false) (l := List.range l.length)).2 ⟨i, by simpa using hi, by simp [hl]⟩
            rwa [List.length_range] at h1
          omega
      refine ⟨?_, hend n u x (by omega) hCx fun i hi => hf i hi (hall i hi)⟩
      unfold Region.ready
      rw [List.filter_eq_nil_iff]
      intro i hi
      have hi' : i < l.length := by simpa using hi
      have h1 : listed.getD i true = true := by
        have := hall i hi'
        have hlt : i < listed.size := by omega
        rw [Array.getD_eq_getD_getElem?, Array.getElem?_eq_getElem hlt] at this ⊢
        simpa using this
      simp [h1]
    | succ fuel ih =>
      intro n listed u x hnf hsz hCx hf hcount
      refine ⟨fun hr => hend n u x (by omega) hCx fun i hi => hf i hi (allListed listed hsz hr i hi), fun i hi => ?_⟩
      unfold Region.ready at hi
      rw [List.mem_filter] at hi
      obtain ⟨hi1, hi2⟩ := hi
      have hil : i < l.length := by simpa using hi1
      have ho : l[i]? = some l[i] := List.getElem?_eq_getElem hil
      simp only [List.getElem?_toArray, ho, Option.map_some, Option.getD_some, Bool.and_eq_true] at hi2
      obtain ⟨hun, hedges⟩ := hi2
      have hnl : listed.getD i false = false := by
        have hlt : i < listed.size := by omega
        rw [Array.getD_eq_getD_getElem?, Array.getElem?_eq_getElem hlt] at hun ⊢
        simpa using hun
      have hpre : ∀ j ∈ flowPreds l[i], φ j (u j) x := by
        intro j hj
        obtain ⟨e, he, rfl⟩ := List.mem_map.1 hj
        obtain ⟨he1, he2⟩ := List.mem_filter.1 he
        have hlt := hback i _ ho _ hj
        rw [← Array.all_toList, List.all_eq_true] at hedges
        have := hedges e he1
        simp only [he2, Bool.not_true, Bool.false_or] at this
        exact hf e.on (by omega) this
      have hs := hstep i _ ho n u x (by omega) hCx hpre
      have next : ∀ v y, T n x y ∧ φ i v y → wpAny P .any l.toArray Q fuel (listed.setIfInBounds i true) ((flowAct a u 0 l).put l[i].dst v) y := by
        intro v y ⟨hTxy, hv⟩
        have he := flowAct_upd u v l 0 a i l[i] ho (hdist i _ ho)
        rw [Nat.zero_add] at he
        rw [← he]
        refine ih (n + 1) (listed.setIfInBounds i true) (upd u i v) y (by omega) (by simpa using hsz) (hT _ _ _ hTxy hCx) (fun j hj hl => ?_) ?_
        · by_cases hji : j = i
          · subst hji
            simpa [upd] using hv
          · have : listed.getD j false = true := by
              rw [Array.getD_eq_getD_getElem?, Array.getElem?_setIfInBounds_ne (fun e => hji e.symm)] at hl
              rwa [Array.getD_eq_getD_getElem?]
            simpa [upd, hji] using hφ _ _ _ hTxy hCx j _ (hf j hj this)
        · have hc : ((List.range l.length).filter fun k => listed.getD k false).length + 1 ≤ ((List.range l.length).filter fun k => (listed.setIfInBounds i true).getD k false).length := by
            have hsub : ((List.range l.length).filter fun k => (listed.setIfInBounds i true).getD k false).countP (fun k => k ≠ i) = ((List.range l.length).filter fun k => listed.getD k false).countP (fun k => k ≠ i) := by
              rw [List.countP_filter, List.countP_filter]
              refine List.countP_congr fun k hk => ?_
              by_cases hki : k = i
              · simp [hki]
              · rw [Array.getD_eq_getD_getElem?, Array.getElem?_setIfInBounds_ne (fun e => hki e.symm), Array.getD_eq_getD_getElem?]
            have hold : ((List.range l.length).filter fun k => listed.getD k false).countP (fun k => k ≠ i) = ((List.range l.length).filter fun k => listed.getD k false).length := by
              rw [List.countP_eq_length]
              intro k hk
              have := (List.mem_filter.1 hk).2
              simp
              rintro rfl
              simp [hnl] at this
            have hlt : ((List.range l.length).filter fun k => (listed.setIfInBounds i true).getD k false).countP (fun k => k ≠ i) < ((List.range l.length).filter fun k => (listed.setIfInBounds i true).getD k false).length := by
              refine Nat.lt_of_le_of_ne List.countP_le_length (fun e => ?_)
              rw [List.countP_eq_length] at e
              have him : i ∈ (List.range l.length).filter fun k => (listed.setIfInBounds i true).getD k false := by
                rw [List.mem_filter]
                refine ⟨by simpa using hil, ?_⟩
                have hlt' : i < listed.size := by omega
                rw [Array.getD_eq_getD_getElem?, Array.getElem?_setIfInBounds_self_of_lt hlt']
                rfl
              have := e i him
              simp at this
            omega
          omega
      unfold wpOp
      simp only [List.getElem?_toArray, ho]
      unfold flowOp at hs
      by_cases hw : Region.wanted l[i] (yielded l.toArray (flowAct a u 0 l).tmps) = true
      · rw [if_pos hw] at hs ⊢
        refine .inl ?_
        unfold Oper.wp
        generalize (execOp (flowAct a u 0 l).eval l[i]).run P x = r at hs ⊢
        cases r with
        | ok n y =>
          cases n <;> simp only [flowUpon] at hs <;> simp only [Oper.upon]
          case value v => exact next _ _ hs
          case skip => exact next _ _ hs
          case enter f args =>
            exact hs.mono fun e y' ⟨v, hv, h⟩ => by subst hv; exact next _ _ h
        | halt h y => simp only [flowUpon] at hs
      · rw [if_neg hw] at hs ⊢
        exact next _ _ hs
  refine wp_region_any hm ?_
  have h0 : flowAct a (fun j => match l[j]? with | some o => (match o.dst with | some d => a.tmps.getD d undef | none => undef) | none => undef) 0 l = a := by
    refine flowAct_self a _ l 0 (fun j o hj d hd => ?_)
    simp [hj, hd]
  have := main l.length 0 (Array.replicate l.length false) (fun j => match l[j]? with | some o => (match o.dst with | some d => a.tmps.getD d undef | none => undef) | none => undef) w.drew (by omega) (by simp) hC (fun i hi h => by
    exfalso
    rw [Array.getD_eq_getD_getElem?, Array.getElem?_replicate] at h
    simp [hi] at h) (by omega)
  rw [h0] at this
  simpa using this

/-- The operations one by one. -/
def flowAll (P : Program) (ops : List Oper) (C : Nat → World → Prop) (T : Nat → World → World → Prop) (φ : Nat → Value → World → Prop) (a : Act) : Nat → List Oper → Prop
  | _, [] => True
  | k, o :: l => (∀ (n : Nat) (u : Nat → Value) (x : World), n < ops.length → C n x → (∀ j ∈ flowPreds o, φ j (u j) x) → flowOp P ops.toArray o (flowAct a u 0 ops) x (fun v y => T n x y ∧ φ k v y)) ∧ flowAll P ops C T φ a (k + 1) l
theorem flowAll_at {ops : List Oper} {C : Nat → World → Prop} {T : Nat → World → World → Prop} {φ : Nat → Value → World → Prop} {a : Act} : ∀ (l : List Oper) (k : Nat), flowAll P ops C T φ a k l → ∀ i o, l[i]? = some o →
    ∀ (n : Nat) (u : Nat → Value) (x : World), n < ops.length → C n x → (∀ j ∈ flowPreds o, φ j (u j) x) → flowOp P ops.toArray o (flowAct a u 0 ops) x (fun v y => T n x y ∧ φ (k + i) v y)
  | [], _, _, i, o, h => by simp at h
  | o1 :: l, k, hh, 0, o, h => by
    simp at h
    subst h
    exact hh.1
  | o1 :: l, k, hh, i + 1, o, h => by
    rw [show k + (i + 1) = k + 1 + i from by omega]
    exact flowAll_at l (k + 1) hh.2 i o (by simpa using h)
theorem wp_flow {id : Nat} {l : List Oper} {a : Act} {w : World} (hm : P.follows .mixedOrders = true) (hB : flowB l = true)
    (C : Nat → World → Prop) (T : Nat → World → World → Prop) (φ : Nat → Value → World → Prop)
    (hC : C 0 w.drew)
    (hT : ∀ n x y, T n x y → C n x → C (n + 1) y)
    (hφ : ∀ n x y, T n x y → C n x → ∀ i v, φ i v x → φ i v y)
    (hstep : flowAll P l C T φ a 0 l)
    (hend : ∀ (n : Nat) (u : Nat → Value) (x : World), n ≤ l.length → C n x → (∀ i, i < l.length → φ i (u i) x) → Q .normal (flowAct a u 0 l) x) :
    (Code.region id l.toArray true).wp P Q a w :=
  wp_region_flow hm hB C T φ hC hT hφ (fun i o hi n u x hn hCx hp => by have := flowAll_at l 0 hstep i o hi n u x hn hCx hp; rwa [Nat.zero_add] at this)
    hend
theorem flowOp_def (ops : Array Oper) (o : Oper) (a : Act) (w : World) (F : Value → World → Prop) :
    flowOp P ops o a w F = if Region.wanted o (yielded ops a.tmps) then flowUpon P F ((execOp a.eval o).run P w) else F undef w := rfl
attribute [irreducible] flowOp
end
end Go.Proofs.YtboobimpoddacaaGreatDoor

namespace Go.Proofs.YtboobimpoddacaaGreatDoor
open Go.RowKit
set_option linter.unusedVariables false

/-- For each operation those that must have run when it comes up. -/
def mkCert (l : List Oper) : List (List Nat) := l.foldl (fun acc o => acc ++ [((flowPreds o) ++ (flowPreds o).flatMap (fun j => acc.getD j [])).eraseDups]) []
def certB (l : List Oper) (cert : List (List Nat)) (N : Nat) : Bool :=
  (l.zipIdx.all fun (o, i) => (cert.getD i []).all fun j => (flowPreds o).contains j || (flowPreds o).any fun k => (cert.getD k []).contains j) &&
  ((List.range l.length).all fun i => decide (i < N) || (List.range i).all fun j => (cert.getD i []).contains j) && decide (N ≤ l.length)

theorem certB_spec {l : List Oper} {cert : List (List Nat)} {N : Nat} (h : certB l cert N = true) (hback : ∀ i o, l[i]? = some o → ∀ j ∈ flowPreds o, j < i) :
    N ≤ l.length ∧ ∀ (listed : Nat → Prop), (∀ i o, l[i]? = some o → listed i → ∀ j ∈ flowPreds o, listed j) → ∀ i o, l[i]? = some o → N ≤ i → (∀ j ∈ flowPreds o, listed j) → ∀ j, j < i → listed j := by
  simp only [certB, Bool.and_eq_true, List.all_eq_true, decide_eq_true_eq, Bool.or_eq_true, List.contains_iff_mem, List.any_eq_true, List.mem_range] at h
  obtain ⟨⟨h1, h2⟩, h3⟩ := h
  refine ⟨h3, fun listed hcl i o hi hN hp j hj => ?_⟩
  have key : ∀ k, k < l.length → listed k → ∀ j ∈ cert.getD k [], listed j := by
    intro k
    induction k using Nat.strongRecOn with
    | _ k ih =>
      intro hk hlk j hj
      have ho : l[k]? = some l[k] := List.getElem?_eq_getElem hk
      rcases h1 (l[k], k) (List.mem_zipIdx_iff_getElem?.2 ho) j hj with h | ⟨m, hm, hmj⟩
      · exact hcl k _ ho hlk j h
      · have hmk := hback k _ ho m hm
        exact ih m hmk (by omega) (hcl k _ ho hlk m hm) j hmj
  have hil : i < l.length := (List.getElem?_eq_some_iff.1 hi).1
  rcases h2 i hil with h | h
  · omega
  · have hc := h j hj
    rcases h1 (o, i) (List.mem_zipIdx_iff_getElem?.2 hi) j hc with h | ⟨m, hm, hmj⟩
    · exact hp j h
    · have hmi := hback i _ hi m hm
      exact key m (by omega) (hp m hm) j hmj

section
variable {P : Program} {Q : Exit → Act → World → Prop}

theorem tail_any {l : List Oper} (hback : ∀ i o, l[i]? = some o → ∀ j ∈ flowPreds o, j < i) {N : Nat}
    (hcov : ∀ (listed : Nat → Prop), (∀ i o, l[i]? = some o → listed i → ∀ j ∈ flowPreds o, listed j) → ∀ i o, l[i]? = some o → N ≤ i → (∀ j ∈ flowPreds o, listed j) → ∀ j, j < i → listed j) :
    ∀ (m fuel k : Nat) (listed : Array Bool) (a : Act) (w : World), N ≤ k → k + m = l.length → m ≤ fuel → listed.size = l.length → (∀ i, i < l.length → (listed.getD i false = true ↔ i < k)) →
      wpList P l.toArray Q (l.drop k) a w → wpAny P .any l.toArray Q fuel listed a w := by
  intro m
  have getT : ∀ (listed : Array Bool) (i : Nat), i < listed.size → listed.getD i true = listed.getD i false := by
    intro listed i hi
    rw [Array.getD_eq_getD_getElem?, Array.getD_eq_getD_getElem?, Array.getElem?_eq_getElem hi]
    rfl
  induction m with
  | zero =>
    intro fuel k listed a w hN hk hf hsz hl h
    have hnil : l.drop k = [] := List.drop_eq_nil_of_le (by omega)
    rw [hnil] at h
    refine wpAny_done ?_ h fuel
    unfold Region.ready
    rw [List.filter_eq_nil_iff]
    intro i hi
    have hi' : i < l.length := by simpa using hi
    rw [getT listed i (by omega), (hl i hi').2 (by omega)]
    simp
  | succ m ih =>
    intro fuel k listed a w hN hk hf hsz hl h
    obtain ⟨fuel, rfl⟩ : ∃ f, fuel = f + 1 := ⟨fuel - 1, by omega⟩
    have hkl : k < l.length := by omega
    have hok : l[k]? = some l[k] := List.getElem?_eq_getElem hkl
    rw [List.drop_eq_getElem_cons hkl] at h
    have hready : ∀ i, i ∈ Region.ready .any l.toArray listed → i = k := by
      intro i hi
      unfold Region.ready at hi
      rw [List.mem_filter] at hi
      obtain ⟨hi1, hi2⟩ := hi
      have hil : i < l.length := by simpa using hi1
      have ho : l[i]? = some l[i] := List.getElem?_eq_getElem hil
      simp only [List.getElem?_toArray, ho, Option.map_some, Option.getD_some, Bool.and_eq_true, Bool.not_eq_true'] at hi2
      obtain ⟨hun, hedges⟩ := hi2
      rw [getT listed i (by omega)] at hun
      have hik : ¬ i < k := fun hlt => by rw [(hl i hil).2 hlt] at hun; cases hun
      have hp : ∀ j ∈ flowPreds l[i], j < k := by
        intro j hj
        obtain ⟨e, he, rfl⟩ := List.mem_map.1 hj
        obtain ⟨he1, he2⟩ := List.mem_filter.1 he
        rw [← Array.all_toList, List.all_eq_true] at hedges
        have := hedges e he1
        simp only [he2, Bool.not_true, Bool.false_or] at this
        exact (hl e.on (by have := hback i _ ho _ hj; omega)).1 this
      have hall := hcov (fun j => j < k) (fun i' o' hi' hlt j hj => Nat.lt_trans (hback i' o' hi' j hj) hlt) i _ ho (by omega) hp
      rcases Nat.lt_or_ge k i with hlt | hge
      · exact absurd (hall k hlt) (by omega)
      · omega
    have hkr : k ∈ Region.ready .any l.toArray listed := by
      unfold Region.ready
      rw [List.mem_filter]
      refine ⟨by simpa using hkl, ?_⟩
      have hun : listed.getD k false = false := by
        cases hc : listed.getD k false with
        | false => rfl
        | true => have := (hl k hkl).1 hc; omega
      simp only [List.getElem?_toArray, hok, Option.map_some, Option.getD_some, getT listed k (by omega), hun, Bool.not_false, Bool.true_and]
      rw [← Array.all_toList, List.all_eq_true]
      intro e he
      cases hb : Region.binds .any e with
      | false => simp
      | true =>
        have hj : e.on ∈ flowPreds l[k] := List.mem_map.2 ⟨e, List.mem_filter.2 ⟨he, hb⟩, rfl⟩
        have hlt := hback k _ hok _ hj
        simp only [Bool.not_true, Bool.false_or]
        exact (hl e.on (by omega)).2 hlt
    refine ⟨fun hr => (by rw [hr] at hkr; cases hkr), fun i hi => ?_⟩
    obtain rfl := hready i hi
    have next : ∀ a' w', wpList P l.toArray Q (l.drop (i + 1)) a' w' → wpAny P .any l.toArray Q fuel (listed.setIfInBounds i true) a' w' := by
      intro a' w' h'
      refine ih fuel (i + 1) _ a' w' (by omega) (by omega) (by omega) (by simpa using hsz) (fun j hj => ?_) h'
      by_cases hji : j = i
      · subst hji
        rw [Array.getD_eq_getD_getElem?, Array.getElem?_setIfInBounds_self_of_lt (by omega)]
        simp
      · rw [Array.getD_eq_getD_getElem?, Array.getElem?_setIfInBounds_ne (fun e => hji e.symm), ← Array.getD_eq_getD_getElem?, hl j hj]
        omega
    unfold wpOp
    simp only [List.getElem?_toArray, hok]
    simp only [wpList] at h
    split
    · rename_i hw
      rw [if_pos hw] at h
      exact h.imp (Oper.wp_mono next) id
    · rename_i hw
      rw [if_neg hw] at h
      exact next _ _ h

/-- The operations ahead of the tail, one by one. -/
def flowHead (P : Program) (l fl : List Oper) (C : Nat → World → Prop) (T : Nat → World → World → Prop) (φ : Nat → Value → World → Prop) (a : Act) : Nat → List Oper → Prop
  | _, [] => True
  | k, o :: r => (∀ (n : Nat) (u : Nat → Value) (x : World), n < fl.length → C n x → (∀ j ∈ flowPreds o, φ j (u j) x) → flowOp P l.toArray o (flowAct a u 0 fl) x (fun v y => T n x y ∧ φ k v y)) ∧ flowHead P l fl C T φ a (k + 1) r
theorem flowHead_at {l fl : List Oper} {C : Nat → World → Prop} {T : Nat → World → World → Prop} {φ : Nat → Value → World → Prop} {a : Act} : ∀ (r : List Oper) (k : Nat), flowHead P l fl C T φ a k r → ∀ i o, r[i]? = some o →
    ∀ (n : Nat) (u : Nat → Value) (x : World), n < fl.length → C n x → (∀ j ∈ flowPreds o, φ j (u j) x) → flowOp P l.toArray o (flowAct a u 0 fl) x (fun v y => T n x y ∧ φ (k + i) v y)
  | [], _, _, i, o, h => by simp at h
  | o1 :: r, k, hh, 0, o, h => by
    simp at h
    subst h
    exact hh.1
  | o1 :: r, k, hh, i + 1, o, h => by
    rw [show k + (i + 1) = k + 1 + i from by omega]
    exact flowHead_at r (k + 1) hh.2 i o (by simpa using h)

/-- THE LAW: 'fl' the first operations, 'tl' the tail. -/
theorem wp_flow_tail {id : Nat} {l : List Oper} {a : Act} {w : World} (fl tl : List Oper) (hl : l = fl ++ tl) (hm : P.follows .mixedOrders = true) (hB : flowB l = true) (hc : certB l (mkCert l) fl.length = true)
    (C : Nat → World → Prop) (T : Nat → World → World → Prop) (φ : Nat → Value → World → Prop)
    (hC : C 0 w.drew)
    (hT : ∀ n x y, T n x y → C n x → C (n + 1) y)
    (hφ : ∀ n x y, T n x y → C n x → ∀ i v, φ i v x → φ i v y)
    (hstep : flowHead P l fl C T φ a 0 fl)
    (hend : ∀ (n : Nat) (u : Nat → Value) (x : World), n ≤ l.length → C n x → (∀ i, i < fl.length → φ i (u i) x) → wpList P l.toArray Q tl (flowAct a u 0 fl) x) :
    (Code.region id l.toArray true).wp P Q a w := by
  simp only [flowB, Bool.and_eq_true, List.all_eq_true] at hB
  have hback : ∀ i o, l[i]? = some o → ∀ j ∈ flowPreds o, j < i := by
    intro i o hi j hj
    have := hB.1 (o, i) (List.mem_zipIdx_iff_getElem?.2 hi)
    simp only [decide_eq_true_eq] at this
    exact this j hj
  have hdist : ∀ (i : Nat) (o : Oper), l[i]? = some o → ∀ (j : Nat) (o' : Oper), l[j]? = some o' → j ≠ i → ∀ x, o.dst = some x → o'.dst ≠ some x := by
    intro i o hi j o' hj hne x hx hx'
    have := hB.2 (o, i) (List.mem_zipIdx_iff_getElem?.2 hi) (o', j) (List.mem_zipIdx_iff_getElem?.2 hj)
    simp [hx, hx'] at this
    omega
  obtain ⟨hNl, hcov⟩ := certB_spec hc hback
  have hfl : ∀ (i : Nat) (o : Oper), fl[i]? = some o → l[i]? = some o := by
    intro i o h
    rw [hl, List.getElem?_append_left (List.getElem?_eq_some_iff.1 h).1]
    exact h
  have hdrop : l.drop fl.length = tl := by rw [hl, List.drop_left]
  have getT : ∀ (listed : Array Bool) (i : Nat), i < listed.size → listed.getD i true = listed.getD i false := by
    intro listed i hi
    rw [Array.getD_eq_getD_getElem?, Array.getD_eq_getD_getElem?, Array.getElem?_eq_getElem hi]
    rfl
  have atTail : ∀ (fuel n : Nat) (listed : Array Bool) (u : Nat → Value) (x : World), l.length ≤ fl.length + fuel → n ≤ l.length → listed.size = l.length → C n x →
      (∀ i, i < l.length → listed.getD i false = true → i < fl.length ∧ φ i (u i) x) → (∀ i, i < fl.length → listed.getD i false = true) → wpAny P .any l.toArray Q fuel listed (flowAct a u 0 fl) x := by
    intro fuel n listed u x hfu hn hsz hCx hf hall
    refine tail_any hback hcov (l.length - fl.length) fuel fl.length listed _ _ (Nat.le_refl _) (by omega) (by omega) hsz (fun i hi => ⟨fun h => (hf i hi h).1, hall i⟩) ?_
    rw [hdrop]
    exact hend n u x hn hCx fun i hi => (hf i (by omega) (hall i hi)).2
  have main : ∀ (fuel n : Nat) (listed : Array Bool) (u : Nat → Value) (x : World), n + fuel = l.length → listed.size = l.length → C n x → (∀ i, i < l.length → listed.getD i false = true → i < fl.length ∧ φ i (u i) x) →
      (∀ i o, l[i]? = some o → listed.getD i false = true → ∀ j ∈ flowPreds o, listed.getD j false = true) →
      n ≤ ((List.range fl.length).filter fun i => listed.getD i false).length → wpAny P .any l.toArray Q fuel listed (flowAct a u 0 fl) x := by
    intro fuel
    have allOf : ∀ (listed : Array Bool), fl.length ≤ ((List.range fl.length).filter fun i => listed.getD i false).length → ∀ i, i < fl.length → listed.getD i false = true := by
      intro listed h i hi
      cases hli : listed.getD i false with
      | true => rfl
      | false =>
        have h1 := (List.length_filter_lt_length_iff_exists (p := fun i => listed.getD i false) (l := List.range fl.length)).2 ⟨i, by simpa using hi, by simp [hli]⟩
        rw [List.length_range] at h1
        omega
    have cntLe : ∀ (listed : Array Bool), ((List.range fl.length).filter fun i => listed.getD i false).length ≤ fl.length := fun listed => by
      have := List.length_filter_le (fun i => listed.getD i false) (List.range fl.length)
      rwa [List.length_range] at this
    induction fuel with
    | zero =>
      intro n listed u x hnf hsz hCx hf hcl hcount
      have := cntLe listed
      exact atTail 0 n listed u x (by omega) (by omega) hsz hCx hf (allOf listed (by omega))
    | succ fuel ih =>
      intro n listed u x hnf hsz hCx hf hcl hcount
      by_cases hall : fl.length ≤ ((List.range fl.length).filter fun i => listed.getD i false).length
      · exact atTail (fuel + 1) n listed u x (by have := cntLe listed; omega) (by omega) hsz hCx hf (allOf listed hall)
      have hlt : n < fl.length := by omega
      refine ⟨fun hr => ?_, fun i hi => ?_⟩
      · exfalso
        apply hall
        have hallL : ∀ i, i < fl.length → listed.getD i false = true := by
          intro i
          induction i using Nat.strongRecOn with
          | _ i ihi =>
            intro hi
            cases hli : listed.getD i false with
            | true => rfl
            | false =>
              have hil : i < l.length := by omega
              have ho : l[i]? = some l[i] := List.getElem?_eq_getElem hil
              have hmem : i ∈ Region.ready .any l.toArray listed := by
                unfold Region.ready
                rw [List.mem_filter]
                refine ⟨by simpa using hil, ?_⟩
                simp only [List.getElem?_toArray, ho, Option.map_some, Option.getD_some, getT listed i (by omega), hli, Bool.not_false, Bool.true_and]
                rw [← Array.all_toList, List.all_eq_true]
                intro e he
                cases hb : Region.binds .any e with
                | false => simp
                | true =>
                  have hj : e.on ∈ flowPreds l[i] := List.mem_map.2 ⟨e, List.mem_filter.2 ⟨he, hb⟩, rfl⟩
                  have hlt' := hback i _ ho _ hj
                  simp only [Bool.not_true, Bool.false_or]
                  exact ihi e.on hlt' (by omega)
              rw [hr] at hmem
              cases hmem
        have he : (List.range fl.length).filter (fun i => listed.getD i false) = List.range fl.length := by
          rw [List.filter_eq_self]
          intro i hi
          exact hallL i (by simpa using hi)
        rw [he, List.length_range]
        exact Nat.le_refl _
      unfold Region.ready at hi
      rw [List.mem_filter] at hi
      obtain ⟨hi1, hi2⟩ := hi
      have hil : i < l.length := by simpa using hi1
      have ho : l[i]? = some l[i] := List.getElem?_eq_getElem hil
      simp only [List.getElem?_toArray, ho, Option.map_some, Option.getD_some, Bool.and_eq_true, Bool.not_eq_true'] at hi2
      obtain ⟨hun, hedges⟩ := hi2
      rw [getT listed i (by omega)] at hun
      have hpl : ∀ j ∈ flowPreds l[i], listed.getD j false = true := by
        intro j hj
        obtain ⟨e, he, rfl⟩ := List.mem_map.1 hj
        obtain ⟨he1, he2⟩ := List.mem_filter.1 he
        rw [← Array.all_toList, List.all_eq_true] at hedges
        have := hedges e he1
        simpa only [he2, Bool.not_true, Bool.false_or] using this
      have hifl : i < fl.length := by
        rcases Nat.lt_or_ge i fl.length with h | h
        · exact h
        · exfalso
          apply hall
          have hallL := hcov (fun j => listed.getD j false = true) hcl i _ ho h hpl
          have he : (List.range fl.length).filter (fun i => listed.getD i false) = List.range fl.length := by
            rw [List.filter_eq_self]
            intro j hj
            exact hallL j (by have : j < fl.length := by simpa using hj
                              omega)
          rw [he, List.length_range]
          exact Nat.le_refl _
      have hof : fl[i]? = some l[i] := by
        have := hfl i fl[i] (List.getElem?_eq_getElem hifl)
        rw [ho] at this
        rw [List.getElem?_eq_getElem hifl, this]
      have hs := flowHead_at fl 0 hstep i _ hof n u x hlt hCx (fun j hj => (hf j (by have := hback i _ ho j hj; omega) (hpl j hj)).2)
      rw [Nat.zero_add] at hs
      have next : ∀ v y, T n x y ∧ φ i v y → wpAny P .any l.toArray Q fuel (listed.setIfInBounds i true) ((flowAct a u 0 fl).put l[i].dst v) y := by
        intro v y ⟨hTxy, hv⟩
        have he := flowAct_upd u v fl 0 a i l[i] hof (fun j o' hj hne => hdist i _ ho j o' (hfl j o' hj) hne)
        rw [Nat.zero_add] at he
        rw [← he]
        have setOther : ∀ j, j ≠ i → (listed.setIfInBounds i true).getD j false = listed.getD j false := fun j hji => by
          rw [Array.getD_eq_getD_getElem?, Array.getElem?_setIfInBounds_ne (fun e => hji e.symm), ← Array.getD_eq_getD_getElem?]
        have setSelf : (listed.setIfInBounds i true).getD i false = true := by
          rw [Array.getD_eq_getD_getElem?, Array.getElem?_setIfInBounds_self_of_lt (by omega)]
          rfl
        refine ih (n + 1) (listed.setIfInBounds i true) (upd u i v) y (by omega) (by simpa using hsz) (hT _ _ _ hTxy hCx) (fun j hj hl' => ?_) (fun j o' hj hl' k hk => ?_) ?_
        · by_cases hji : j = i
          · subst hji
            exact ⟨hifl, by simpa [upd] using hv⟩
          · rw [setOther j hji] at hl'
            obtain ⟨h1, h2⟩ := hf j hj hl'
            exact ⟨h1, by simpa [upd, hji] using hφ _ _ _ hTxy hCx j _ h2⟩
        · have hkl : listed.getD k false = true := by
            by_cases hji : j = i
            · subst hji
              rw [ho] at hj
              injection hj with hj
              subst hj
              exact hpl k hk
            · rw [setOther j hji] at hl'
              exact hcl j o' hj hl' k hk
          by_cases hki : k = i
          · subst hki
            exact setSelf
          · rw [setOther k hki]
            exact hkl
        · have hsub : ((List.range fl.length).filter fun k => (listed.setIfInBounds i true).getD k false).countP (fun k => k ≠ i) = ((List.range fl.length).filter fun k => listed.getD k false).countP (fun k => k ≠ i) := by
            rw [List.countP_filter, List.countP_filter]
            refine List.countP_congr fun k hk => ?_
            by_cases hki : k = i
            · simp [hki]
            · rw [setOther k hki]
          have hold : ((List.range fl.length).filter fun k => listed.getD k false).countP (fun k => k ≠ i) = ((List.range fl.length).filter fun k => listed.getD k false).length := by
            rw [List.countP_eq_length]
            intro k hk
            have := (List.mem_filter.1 hk).2
            simp
            rintro rfl
            simp [hun] at this
          have hlt2 : ((List.range fl.length).filter fun k => (listed.setIfInBounds i true).getD k false).countP (fun k => k ≠ i) < ((List.range fl.length).filter fun k => (listed.setIfInBounds i true).getD k false).length := by
            refine Nat.lt_of_le_of_ne List.countP_le_length (fun e => ?_)
            rw [List.countP_eq_length] at e
            have him : i ∈ (List.range fl.length).filter fun k => (listed.setIfInBounds i true).getD k false := List.mem_filter.2 ⟨by simpa using hifl, setSelf⟩
            have := e i him
            simp at this
          omega
      unfold wpOp
      simp only [List.getElem?_toArray, ho]
      rw [flowOp_def] at hs
      by_cases hw : Region.wanted l[i] (yielded l.toArray (flowAct a u 0 fl).tmps) = true
      · rw [if_pos hw] at hs ⊢
        refine .inl ?_
        unfold Oper.wp
        generalize (execOp (flowAct a u 0 fl).eval l[i]).run P x = r at hs ⊢
        cases r with
        | ok n y =>
          cases n <;> simp only [flowUpon] at hs <;> simp only [Oper.upon]
          case value v => exact next _ _ hs
          case skip => exact next _ _ hs
          case enter f args =>
            exact hs.mono fun e y' ⟨v, hv, h⟩ => by subst hv; exact next _ _ h
        | halt h y => simp only [flowUpon] at hs
      · rw [if_neg hw] at hs ⊢
        exact next _ _ hs
  refine wp_region_any hm ?_
  have h0 : flowAct a (fun j => match fl[j]? with | some o => (match o.dst with | some d => a.tmps.getD d undef | none => undef) | none => undef) 0 fl = a := by
    refine flowAct_self a _ fl 0 (fun j o hj d hd => ?_)
    simp [hj, hd]
  have rep : ∀ i, (Array.replicate l.length false).getD i false = false := fun i => by
    rw [Array.getD_eq_getD_getElem?, Array.getElem?_replicate]
    split <;> rfl
  have := main l.length 0 (Array.replicate l.length false) (fun j => match fl[j]? with | some o => (match o.dst with | some d => a.tmps.getD d undef | none => undef) | none => undef) w.drew (by omega) (by simp) hC
    (fun i hi h => by rw [rep] at h; cases h) (fun i o hi h => by rw [rep] at h; cases h) (Nat.zero_le _)
  rw [h0] at this
  simpa using this
end
end Go.Proofs.YtboobimpoddacaaGreatDoor

namespace Go.Proofs.YtboobimpoddacaaGreatDoor
open Go.RowKit
set_option linter.unusedVariables false

def PC (w : World) (_ : Nat) (x : World) : Prop := w.grownBy x none
def PT (_ : Nat) (x y : World) : Prop := x.grownBy y none
def fKnown (vals : List Value) (i : Nat) (v : Value) (_ : World) : Prop := v = vals.getD i undef

theorem wp_known {P : Program} {Q : Exit → Act → World → Prop} {id : Nat} {l : List Oper} {a : Act} {w : World} (w0 : World) (vals : List Value) (hw : w0.grownBy w none) (hm : P.follows .mixedOrders = true) (hB : flowB l = true)
    (hstep : flowAll P l (PC w0) PT (fKnown vals) a 0 l)
    (hend : ∀ (u : Nat → Value) (x : World), w0.grownBy x none → (∀ i, i < l.length → u i = vals.getD i undef) → Q .normal (flowAct a u 0 l) x) :
    (Code.region id l.toArray true).wp P Q a w :=
  wp_flow hm hB (PC w0) PT (fKnown vals) (gb_drew hw) (fun n x y h k => gb_trans k h) (fun n x y _ _ i v h => h) hstep (fun n u x _ hC hp => hend u x hC hp)
end Go.Proofs.YtboobimpoddacaaGreatDoor

namespace Go.Proofs.YtboobimpoddacaaGreatDoor
open Go.RowKit
set_option linter.unusedVariables false

theorem wp_known_tail {P : Program} {Q : Exit → Act → World → Prop} {id : Nat} {l : List Oper} {a : Act} {w : World} (w0 : World) (fl tl : List Oper) (vals : List Value) (hl : l = fl ++ tl) (hw : w0.grownBy w none) (hm : P.follows .mixedOrders = true) (hB : flowB l = true) (hc : certB l (mkCert l) fl.length = true)
    (hstep : flowHead P l fl (PC w0) PT (fKnown vals) a 0 fl)
    (hend : ∀ (u : Nat → Value) (x : World), w0.grownBy x none → (∀ i, i < fl.length → u i = vals.getD i undef) → wpList P l.toArray Q tl (flowAct a u 0 fl) x) :
    (Code.region id l.toArray true).wp P Q a w :=
  wp_flow_tail fl tl hl hm hB hc (PC w0) PT (fKnown vals) (gb_drew hw) (fun n x y h k => gb_trans k h) (fun n x y _ _ i v h => h) hstep (fun n u x _ hC hp => hend u x hC hp)
end Go.Proofs.YtboobimpoddacaaGreatDoor

namespace Go.Proofs.YtboobimpoddacaaGreatDoor
open Go.RowKit
set_option linter.unusedVariables false

def inB (n lo hi : Int) : Bool := decide (lo ≤ n ∧ n ≤ hi)

theorem c_l6In (n lo hi : Int) (w : World) :
    Calls Tryz.prog 63 #[.int .i64 n, .int .i64 lo, .int .i64 hi] w fun e w' => e = .returned (.bool (inB n lo hi)) ∧ w = w' := by
  by_cases h1 : lo ≤ n <;> by_cases h2 : n ≤ hi
  all_goals
    go_enter Tryz.func63, Tryz.ntmps63
    go_wp2
    go_ret
    exact ⟨by simp [inB, *], rfl⟩

def nodeSum (a b : Int) : Int := if 0 ≤ a ∧ a ≤ 9972 ∧ 0 ≤ b ∧ b ≤ 9972 then (a * 97 + b * 89 + 13) % 9973 else -1


end Go.Proofs.YtboobimpoddacaaGreatDoor

namespace Go.Proofs.YtboobimpoddacaaGreatDoor
open Go.RowKit
set_option linter.unusedVariables false

theorem quiet_add_left {P : Program} {f : FuncId} {args : Array Value} {w : World} {a n : Nat} {v : Value}
    (h : Calls P f args (w.drewN (a + n)) fun e w' => e = .returned v ∧ w.drewN (a + n) = w') :
    Calls P f args (w.drewN (a + n)) fun e w'' => e = .returned v ∧ ∃ m, w'' = w.drewN (a + m) :=
  h.mono fun _ _ ⟨he, hm⟩ => ⟨he, n, hm.symm⟩
theorem quiet_left {P : Program} {f : FuncId} {args : Array Value} {w : World} {n : Nat} {v : Value}
    (h : Calls P f args (w.drewN n) fun e w' => e = .returned v ∧ w.drewN n = w') : Calls P f args (w.drewN n) fun e w'' => e = .returned v ∧ ∃ m, w'' = w.drewN m :=
  h.mono fun _ _ ⟨he, hm⟩ => ⟨he, n, hm.symm⟩

theorem c_l1Has (lo : Nat) (A : Option Addr) (n cap : Nat) (xs : List Int) (x : Int) (w : World) (h : Ints w lo A n cap xs) :
    Calls Tryz.prog 132 #[.slice A n cap, .int .i64 x] w fun e w' => e = .returned (.bool (decide (x ∈ xs))) ∧ w = w' := by
  have hlc := h.le
  have hcm := h.max
  have hxl := Lib.hid h.len
  go_enter Tryz.func132, Tryz.ntmps132
  go_wp2
  go_loop [5] (fun i => ∃ k : Nat, k ≤ n ∧ i = .int .i64 k ∧ Hid (x ∉ xs.take k)) (fun i => n - (intOf i).toNat)
  case atStart => exact ⟨0, Nat.zero_le _, rfl, Lib.hid (by simp)⟩
  case round =>
    obtain ⟨k, hk, rfl, hnot⟩ := hrel
    by_cases hlt : k < n
    · obtain ⟨b, off, z, rfl, hz, hcell⟩ := h.at_ hlt
      by_cases hx : z = x
      · subst hx
        go_wp2
        go_ret
        exact ⟨ret_bool (by simpa using List.mem_of_getElem? hz.out), rfl⟩
      · have hx' : (z == x) = false := by simpa using hx
        go_wp2
        go_round
        case rel => exact ⟨k + 1, by omega, by go_num, Lib.hid (by rw [take_succ_of hz.out]; simp [hnot.out]; exact fun e => hx e.symm)⟩
        case measure => simp [intOf]; omega
    · go_wp2
      go_ret
      exact ⟨ret_bool (by have := hnot.out; rw [List.take_of_length_le (by rw [hxl.out]; omega)] at this; simpa using this), rfl⟩

/-- Where a number stands, or -1. -/
def idx (xs : List Int) (x : Int) : Int := if x ∈ xs then ((xs.idxOf x : Nat) : Int) else -1
theorem idx_at {xs : List Int} {x : Int} {k : Nat} (h : xs[k]? = some x) (hn : x ∉ xs.take k) : idx xs x = k := by
  have hm : x ∈ xs := List.mem_of_getElem? h
  have hk : k < xs.length := (List.getElem?_eq_some_iff.1 h).1
  unfold idx
  rw [if_pos hm]
  congr 1
  have h1 : xs = xs.take k ++ xs.drop k := (List.take_append_drop k xs).symm
  have h2 : xs.drop k = x :: xs.drop (k + 1) := by
    rw [List.drop_eq_getElem_cons hk]
    congr 1
    exact (List.getElem?_eq_some_iff.1 h).2
  rw [h1, h2, List.idxOf_append, if_neg hn]
  simp
  omega
theorem idx_no {xs : List Int} {x : Int} (h : x ∉ xs) : idx xs x = -1 := by unfold idx; rw [if_neg h]
theorem idx_nonneg (xs : List Int) (x : Int) : decide (0 ≤ idx xs x) = decide (x ∈ xs) := by
  unfold idx
  by_cases h : x ∈ xs
  · simp [h]
  · simp [h]

theorem c_Index (lo : Nat) (A : Option Addr) (n cap : Nat) (xs : List Int) (x : Int) (w : World) (h : Ints w lo A n cap xs) :
    Calls Tryz.prog 127 #[.slice A n cap, .int .i64 x] w fun e w' => e = .returned (.int .i64 (idx xs x)) ∧ w = w' := by
  have hlc := h.le
  have hcm := h.max
  have hxl := Lib.hid h.len
  go_enter Tryz.func127, Tryz.ntmps127
  go_wp2
  go_loop [8] (fun i => ∃ k : Nat, k ≤ n ∧ i = .int .i64 k ∧ Hid (x ∉ xs.take k)) (fun i => n - (intOf i).toNat)
  case atStart => exact ⟨0, Nat.zero_le _, rfl, Lib.hid (by simp)⟩
  case round =>
    obtain ⟨k, hk, rfl, hnot⟩ := hrel
    by_cases hlt : k < n
    · obtain ⟨b, off, z, rfl, hz, hcell⟩ := h.at_ hlt
      by_cases hx : z = x
      · subst hx
        go_wp2
        go_ret
        exact ⟨ret_int (idx_at hz.out hnot.out).symm, rfl⟩
      · have hx' : (x == z) = false := by simpa using fun e => hx e.symm
        go_wp2
        go_round
        case rel => exact ⟨k + 1, by omega, by go_num, Lib.hid (by rw [take_succ_of hz.out]; simp [hnot.out]; exact fun e => hx e.symm)⟩
        case measure => simp [intOf]; omega
    · go_wp2
      go_ret
      exact ⟨ret_int (idx_no (by have := hnot.out; rwa [List.take_of_length_le (by rw [hxl.out]; omega)] at this)).symm, rfl⟩

theorem c_Contains (lo : Nat) (A : Option Addr) (n cap : Nat) (xs : List Int) (x : Int) (w : World) (h : Ints w lo A n cap xs) :
    Calls Tryz.prog 125 #[.slice A n cap, .int .i64 x] w fun e w' => e = .returned (.bool (decide (x ∈ xs))) ∧ w = w' := by
  go_enter Tryz.func125, Tryz.ntmps125
  go_wp2_with fail
  refine (c_Index lo A n cap xs x w h).mono ?_
  rintro e w' ⟨rfl, rfl⟩
  go_wp2
  go_ret
  exact ⟨ret_bool (idx_nonneg xs x), rfl⟩

theorem c_isMany (n : Int) (w : World) :
    Calls Tryz.prog 88 #[.int .i64 n] w fun e w' => e = .returned (.bool (inB n 1 5)) ∧ w = w' := by
  by_cases h1 : 1 ≤ n <;> by_cases h2 : n ≤ 5
  all_goals
    go_enter Tryz.func88, Tryz.ntmps88
    go_wp2
    go_ret
    exact ⟨by simp [inB, *], rfl⟩

/-- The first k numbers are candidates, none twice. -/
def vPre (n : Int) (xs : List Int) : Nat → Bool
  | 0 => true
  | k + 1 => vPre n xs k && (match xs[k]? with | some z => inB z 0 (n - 1) && !decide (z ∈ xs.take k) | none => false)
def ballotOK (xs : List Int) (n : Int) : Bool := inB n 1 5 && vPre n xs xs.length
theorem vPre_false {n : Int} {xs : List Int} {k : Nat} (h : vPre n xs k = false) : ∀ {m : Nat}, k ≤ m → vPre n xs m = false
  | 0, hm => by
    obtain rfl : k = 0 := by omega
    exact h
  | m + 1, hm => by
    rcases Nat.lt_or_ge m k with hlt | hge
    · obtain rfl : k = m + 1 := by omega
      exact h
    · simp only [vPre, vPre_false h hge, Bool.false_and]
theorem vPre_step {n : Int} {xs : List Int} {k : Nat} {z : Int} (h : xs[k]? = some z) : vPre n xs (k + 1) = (vPre n xs k && (inB z 0 (n - 1) && !decide (z ∈ xs.take k))) := by
  simp only [vPre, h]

theorem ballot_bad {xs : List Int} {m z : Int} {k : Nat} (h : xs[k]? = some z) (hb : (inB z 0 (m - 1) && !decide (z ∈ xs.take k)) = false) : ballotOK xs m = false := by
  have hk : k < xs.length := (List.getElem?_eq_some_iff.1 h).1
  have : vPre m xs (k + 1) = false := by rw [vPre_step h, hb, Bool.and_false]
  unfold ballotOK
  rw [vPre_false this (by omega), Bool.and_false]
theorem ballot_bad' {xs : List Int} {m q z : Int} {k : Nat} (hq : 1 ≤ m ∧ m ≤ 5 → q = m - 1) (h : xs[k]? = some z) (hb : (inB z 0 q && !decide (z ∈ xs.take k)) = false) : ballotOK xs m = false := by
  cases hm : inB m 1 5 with
  | false => unfold ballotOK; rw [hm]; rfl
  | true =>
    have := hq (by simpa [inB] using hm)
    subst this
    exact ballot_bad h hb
theorem take_rd {w : World} {lo k n cap : Nat} {A : Option Addr} {xs : List Int} (h : Ints w lo A n cap xs) (hk : k ≤ n) : Ints w lo A k cap (xs.take k) := by
  refine ⟨Nat.le_trans hk h.1, h.2.1, ?_⟩
  have := h.2.2.take hk
  rw [Nat.mul_one, ← List.map_take] at this
  exact this

theorem c_impl_BallotValid (lo : Nat) (A : Option Addr) (n cap : Nat) (xs : List Int) (m : Int) (w : World) (h : Ints w lo A n cap xs) :
    Calls Tryz.prog 90 #[.slice A n cap, .int .i64 m] w fun e w' => e = .returned (.bool (ballotOK xs m)) ∧ w = w' := by
  have hlc := h.le
  have hcm := h.max
  have hxl := Lib.hid h.len
  by_cases hm : inB m 1 5 = true
  · have hmm : 1 ≤ m ∧ m ≤ 5 := by simpa [inB] using hm
    obtain ⟨hm1, hm2⟩ := hmm
    have Hm := Lib.hid hm
    go_enter Tryz.func90, Tryz.ntmps90
    go_wp2_with fail
    refine (c_isMany _ _).mono ?_
    rintro e w' ⟨rfl, rfl⟩
    go_wp2
    clear hm
    go_loop [12] (fun i => ∃ k : Nat, k ≤ n ∧ i = .int .i64 k ∧ Hid (vPre m xs k = true)) (fun i => n - (intOf i).toNat)
    case atStart => exact ⟨0, Nat.zero_le _, rfl, Lib.hid rfl⟩
    case round =>
      obtain ⟨k, hk, rfl, hpre⟩ := hrel
      by_cases hlt : k < n
      · obtain ⟨b, off, z, rfl, hz, hcell⟩ := h.at_ hlt
        go_wp2_with fail
        · refine (c_Contains lo _ _ _ (xs.take k) z w (take_rd h (by omega))).mono ?_
          rintro e w' ⟨rfl, rfl⟩
          by_cases hin : z ∈ xs.take k
          · have hd : decide (z ∈ xs.take k) = true := by simpa using hin
            clear hin
            go_wp2
            go_ret
            exact ⟨ret_bool (ballot_bad hz.out (by rw [hd]; simp)).symm, rfl⟩
          · have hd : decide (z ∈ xs.take k) = false := by simpa using hin
            clear hin
            have Hd := Lib.hid hd
            go_wp2
            go_round
            case rel => exact ⟨k + 1, by omega, by go_num, Lib.hid (by rw [vPre_step hz.out, hpre.out, Hd.out, show inB z 0 (m - 1) = true from by simp [inB]; omega]; rfl)⟩
            case measure => simp [intOf]; omega
        · go_ret
          exact ⟨ret_bool (ballot_bad hz.out (by rw [show inB z 0 (m - 1) = false from by simp [inB]; omega]; rfl)).symm, rfl⟩
        · go_ret
          exact ⟨ret_bool (ballot_bad hz.out (by rw [show inB z 0 (m - 1) = false from by simp [inB]; omega]; rfl)).symm, rfl⟩
      · go_wp2
        go_ret
        exact ⟨ret_bool (by unfold ballotOK; rw [Hm.out, hxl.out, show n = k from by omega, hpre.out]; rfl), rfl⟩
  · have hm' : inB m 1 5 = false := by simpa using hm
    go_enter Tryz.func90, Tryz.ntmps90
    go_wp2_with fail
    refine (c_isMany _ _).mono ?_
    rintro e w' ⟨rfl, rfl⟩
    go_wp2
    go_ret
    exact ⟨ret_bool (by unfold ballotOK; rw [hm']; rfl), rfl⟩

theorem c_spec_BallotValid (lo : Nat) (A : Option Addr) (n cap : Nat) (xs : List Int) (m : Int) (w : World) (h : Ints w lo A n cap xs) :
    Calls Tryz.prog 99 #[.slice A n cap, .int .i64 m] w fun e w' => e = .returned (.bool (ballotOK xs m)) ∧ ∃ d, w' = w.drewN d := by
  have hlc := h.le
  have hcm := h.max
  have hxl := Lib.hid h.len
  obtain ⟨q, hq⟩ : ∃ q, IntKind.i64.wrap (m - 1) = q := ⟨_, rfl⟩
  have Hq : Hid (1 ≤ m ∧ m ≤ 5 → q = m - 1) := Lib.hid (by rintro ⟨h1, h2⟩; rw [← hq]; exact IntWalk.i64_in _ (by omega))
  go_enter Tryz.func99, Tryz.ntmps99
  go_wp2
  go_loopw [5] (fun i wr => ∃ k d : Nat, k ≤ n ∧ i = .int .i64 k ∧ wr = w.drewN d ∧ Hid (1 ≤ m ∧ m ≤ 5 → vPre m xs k = true)) (fun i _ => n - (intOf i).toNat)
  case atStart => exact ⟨0, 0, Nat.zero_le _, rfl, rfl, Lib.hid (fun _ => rfl)⟩
  case round =>
    obtain ⟨k, d, hk, rfl, rfl, hpre⟩ := hrel
    by_cases hlt : k < n
    · obtain ⟨b, off, z, rfl, hz, hcell⟩ := h.at_ hlt
      have hk' : (k : Int) < (n : Int) := by omega
      have hkc : (k : Int) ≤ (cap : Int) := by omega
      by_cases h1 : inB z 0 q = true
      · by_cases hin : z ∈ xs.take k
        · have hd : decide (z ∈ xs.take k) = true := by simpa using hin
          have Hd := Lib.hid hd
          clear hin
          go_wp2
          go_quiet ((first | (go_at_call 63; exact quiet_add_left (c_l6In _ _ _ _)) | (go_at_call 132; exact quiet_add_left (c_l1Has lo _ _ _ (xs.take k) z _ (take_rd h (by omega))))))
          go_wp2
          go_ret
          exact ⟨ret_bool (ballot_bad' Hq.out hz.out (by rw [Hd.out]; simp)).symm, _, World.drewN_drewN _ _ _⟩
        · have hd : decide (z ∈ xs.take k) = false := by simpa using hin
          have Hd := Lib.hid hd
          clear hin
          go_wp2
          go_quiet ((first | (go_at_call 63; exact quiet_add_left (c_l6In _ _ _ _)) | (go_at_call 132; exact quiet_add_left (c_l1Has lo _ _ _ (xs.take k) z _ (take_rd h (by omega))))))
          have H1 := Lib.hid h1
          clear h1 hd hq
          go_wp2
          go_roundw
          case rel => exact ⟨k + 1, _, by omega, by go_num, rfl, Lib.hid (fun hm => by rw [vPre_step hz.out, hpre.out hm, Hd.out, ← Hq.out hm, H1.out]; rfl)⟩
          case measure => simp [intOf]; omega
      · have h1' : inB z 0 q = false := by simpa using h1
        have H1 := Lib.hid h1'
        clear h1
        go_wp2
        go_quiet ((first | (go_at_call 63; exact quiet_add_left (c_l6In _ _ _ _))))
        go_wp2
        go_ret
        exact ⟨ret_bool (ballot_bad' Hq.out hz.out (by rw [H1.out]; rfl)).symm, _, World.drewN_drewN _ _ _⟩
    · go_wp2_with (go_at_call 63; refine (c_l6In _ _ _ _).mono ?_; rintro e w' ⟨rfl, rfl⟩)
      go_ret
      refine ⟨ret_bool ?_, _, rfl⟩
      unfold ballotOK
      rw [hxl.out, show n = k from by omega]
      cases hb : inB m 1 5 with
      | false => rfl
      | true => rw [hpre.out (by simpa [inB] using hb)]; rfl
end Go.Proofs.YtboobimpoddacaaGreatDoor

namespace Go.Proofs.YtboobimpoddacaaGreatDoor
open Go.RowKit
set_option linter.unusedVariables false

/-- Type t is a slice of e; e takes 'size' cells and 'bytes' bytes. -/
structure Elem (P : Program) (t e : TypeId) (size bytes : Nat) (z : Value) : Prop where
  ht : P.underlying t = some (.slice e)
  hi : ∃ i, P.info? e = some i ∧ i.zero = some z ∧ i.size = size ∧ i.bytes = bytes
  hzs : z.cells.size = size
  hsz : 0 < size

section
variable {P : Program} {t e : TypeId} {size bytes : Nat} {z : Value} {ops : Array Oper} {rest : List Oper} {o : Oper} {a : Act} {Q : Exit → Act → World → Prop} {w : World}

theorem run_app (E : Elem P t e size bytes z) (ty : TypeId) (lo n : Nat) (v : Value) (xs : List Value) (hown : w.ownsRow lo e size v n xs) (us : List Value) (hul : us.length = size)
    (hone : ∀ u ∈ us, u.oneCell' = true) (hmax : n + 1 ≤ 9223372036854775807) (hn : (n + 1) * bytes ≤ 140737488355328) (hlo : lo ≤ w.heap.size) :
    ∃ A c w', (Builtin.append_ #[t, t] ty #[v, .slice (some ⟨w.heap.size, 0, none⟩) 1 1]).run P (w.alloc (.cells us.toArray e)) = .ok (.slice A (n + 1) c) w' ∧
      w'.ownsRow lo e size (.slice A (n + 1) c) (n + 1) (xs ++ us) ∧ Below lo w w' ∧ w.grownBy w' v.ownBlock ∧
      ((Value.slice A (n + 1) c).ownBlock = v.ownBlock ∨ ∃ g, (Value.slice A (n + 1) c).ownBlock = some g ∧ w.heap.size ≤ g) := by
  obtain ⟨i, hi, hz, hs, hb⟩ := E.hi
  have hown' := hown.alloc (.cells us.toArray e)
  obtain ⟨v', w', hr, h2, h3, h4, h5⟩ := run_append_own_at (P := P) (w.alloc (.cells us.toArray e)) lo t ty e i z size bytes E.ht hi hz hs hb E.hzs E.hsz v n xs hown' ⟨w.heap.size, 0, none⟩ 1 1 us (by omega)
    (fun j u hu => by
      have hadd : (⟨w.heap.size, 0, none⟩ : Addr).add j = ⟨w.heap.size, j, none⟩ := by unfold Addr.add; split <;> simp_all
      rw [hadd, World.cell?_alloc_new]
      simpa using hu) hone (by unfold maxLen; omega) hn (by simp; omega)
  have hform : ∃ A c, v' = .slice A (n + 1) c := by
    rcases h2.2 with ⟨rfl, h0⟩ | ⟨g, cap, cur, rfl, _⟩
    · omega
    · exact ⟨_, _, rfl⟩
  obtain ⟨A, c, rfl⟩ := hform
  have hg : w.grownBy w' v.ownBlock := by
    have h0 := World.grownBy_alloc w (.cells us.toArray e) v.ownBlock
    exact gb_trans h0 h3
  refine ⟨A, c, w', hr, h2, ⟨hg.os, hg.tape, hg.output, hg.size, fun k hk => hg.block k (by omega) (fun e => ?_)⟩, hg, ?_⟩
  · have := (hown.lt k e.symm).1
    omega
  · rcases h5 with h5 | h5
    · exact .inl h5
    · exact .inr ⟨_, h5, by simp⟩

theorem wpList_app (E : Elem P t e size bytes z) (hgd : o.guard = none) (s x : Operand) (ho : o.op = .call { callee := .builtin .append, args := #[s, x], argTypes := #[t, t] })
    (lo n : Nat) (v : Value) (xs : List Value) (hs : a.eval s = v) (hown : w.ownsRow lo e size v n xs) (us : List Value) (hx : a.eval x = .slice (some ⟨w.heap.size, 0, none⟩) 1 1) (hul : us.length = size)
    (hone : ∀ u ∈ us, u.oneCell' = true) (hmax : n + 1 ≤ 9223372036854775807) (hn : (n + 1) * bytes ≤ 140737488355328) (hlo : lo ≤ w.heap.size)
    (h : ∀ A c w', w'.ownsRow lo e size (.slice A (n + 1) c) (n + 1) (xs ++ us) → Below lo w w' → w.grownBy w' v.ownBlock →
      ((Value.slice A (n + 1) c).ownBlock = v.ownBlock ∨ ∃ g, (Value.slice A (n + 1) c).ownBlock = some g ∧ w.heap.size ≤ g) → wpList P ops Q rest (a.put o.dst (.slice A (n + 1) c)) w') :
    wpList P ops Q (o :: rest) a (w.alloc (.cells us.toArray e)) := by
  refine wpList_plain hgd fun K hK => ?_
  obtain ⟨A, c, w', hr, h2, h3, h4, h5⟩ := run_app (P := P) E o.type lo n v xs hown us hul hone hmax hn hlo
  unfold Oper.wp execOp
  simp only [ho, resolve, invoke, builtin, Sem.run_bind, Sem.run_pure, Result.andThen_ok, List.map_toArray, List.map_cons, List.map_nil, hs, hx, hr]
  exact hK _ _ (h A c w' h2 h3 h4 h5)

/-- The same where the element lies in a block that is known. -/
theorem wpList_appB (E : Elem P t e size bytes z) (hgd : o.guard = none) (s x : Operand) (ho : o.op = .call { callee := .builtin .append, args := #[s, x], argTypes := #[t, t] })
    (lo n : Nat) (v : Value) (xs : List Value) (hs : a.eval s = v) (hown : w.ownsRow lo e size v n xs) (g0 : Nat) (us : List Value) (hx : a.eval x = .slice (some ⟨g0, 0, none⟩) 1 1) (hB : Blk w g0 e us.toArray) (hul : us.length = size)
    (hone : ∀ u ∈ us, u.oneCell' = true) (hmax : n + 1 ≤ 9223372036854775807) (hn : (n + 1) * bytes ≤ 140737488355328) (hlo : lo ≤ w.heap.size)
    (h : ∀ A c w', w'.ownsRow lo e size (.slice A (n + 1) c) (n + 1) (xs ++ us) → Below lo w w' → w.grownBy w' v.ownBlock →
      ((Value.slice A (n + 1) c).ownBlock = v.ownBlock ∨ ∃ g, (Value.slice A (n + 1) c).ownBlock = some g ∧ w.heap.size ≤ g) → wpList P ops Q rest (a.put o.dst (.slice A (n + 1) c)) w') :
    wpList P ops Q (o :: rest) a w := by
  refine wpList_plain hgd fun K hK => ?_
  obtain ⟨i, hi, hz, hsz, hb⟩ := E.hi
  obtain ⟨v', w', hr, h2, h3, h4, h5⟩ := run_append_own_at (P := P) w lo t o.type e i z size bytes E.ht hi hz hsz hb E.hzs E.hsz v n xs hown ⟨g0, 0, none⟩ 1 1 us (by omega)
    (fun j u hu => by
      have hadd : (⟨g0, 0, none⟩ : Addr).add j = ⟨g0, j, none⟩ := by unfold Addr.add; split <;> simp_all
      rw [hadd, hB.cell j]
      simpa using hu) hone (by unfold maxLen; omega) hn hlo
  have hform : ∃ A c, v' = .slice A (n + 1) c := by
    rcases h2.2 with ⟨rfl, h0⟩ | ⟨g, cap, cur, rfl, _⟩
    · omega
    · exact ⟨_, _, rfl⟩
  obtain ⟨A, c, rfl⟩ := hform
  unfold Oper.wp execOp
  simp only [ho, resolve, invoke, builtin, Sem.run_bind, Sem.run_pure, Result.andThen_ok, List.map_toArray, List.map_cons, List.map_nil, hs, hx, hr]
  refine hK _ _ (h A c w' h2 ⟨h3.os, h3.tape, h3.output, h3.size, fun k hk => h3.block k (by omega) (fun e => ?_)⟩ h3 ?_)
  · have := (hown.lt k e.symm).1
    omega
  · rcases h5 with h5 | h5
    · exact .inl h5
    · exact .inr ⟨_, h5, Nat.le_refl _⟩

/-- At a step of a region that draws its order. -/
theorem step_appB {F : Prop} (E : Elem P t e size bytes z) (hgd : o.guard = none) (s x : Operand) (ho : o.op = .call { callee := .builtin .append, args := #[s, x], argTypes := #[t, t] })
    (lo n : Nat) (v : Value) (xs : List Value) (hs : a.eval s = v) (hown : w.ownsRow lo e size v n xs) (g0 : Nat) (us : List Value) (hx : a.eval x = .slice (some ⟨g0, 0, none⟩) 1 1) (hB : Blk w g0 e us.toArray) (hul : us.length = size)
    (hone : ∀ u ∈ us, u.oneCell' = true) (hmax : n + 1 ≤ 9223372036854775807) (hn : (n + 1) * bytes ≤ 140737488355328) (hlo : lo ≤ w.heap.size) {K : Act → World → Prop}
    (h : ∀ A c w', w'.ownsRow lo e size (.slice A (n + 1) c) (n + 1) (xs ++ us) → Below lo w w' → w.grownBy w' v.ownBlock →
      ((Value.slice A (n + 1) c).ownBlock = v.ownBlock ∨ ∃ g, (Value.slice A (n + 1) c).ownBlock = some g ∧ w.heap.size ≤ g) → K (a.put o.dst (.slice A (n + 1) c)) w') :
    if Region.wanted o (yielded ops a.tmps) = true then Oper.wp P o a w K Q else F := by
  have hw : Region.wanted o (yielded ops a.tmps) = true := by simp [Region.wanted, hgd]
  rw [if_pos hw]
  obtain ⟨i, hi, hz, hsz, hb⟩ := E.hi
  obtain ⟨v', w', hr, h2, h3, h4, h5⟩ := run_append_own_at (P := P) w lo t o.type e i z size bytes E.ht hi hz hsz hb E.hzs E.hsz v n xs hown ⟨g0, 0, none⟩ 1 1 us (by omega)
    (fun j u hu => by
      have hadd : (⟨g0, 0, none⟩ : Addr).add j = ⟨g0, j, none⟩ := by unfold Addr.add; split <;> simp_all
      rw [hadd, hB.cell j]
      simpa using hu) hone (by unfold maxLen; omega) hn hlo
  have hform : ∃ A c, v' = .slice A (n + 1) c := by
    rcases h2.2 with ⟨rfl, h0⟩ | ⟨g, cap, cur, rfl, _⟩
    · omega
    · exact ⟨_, _, rfl⟩
  obtain ⟨A, c, rfl⟩ := hform
  unfold Oper.wp execOp
  simp only [ho, resolve, invoke, builtin, Sem.run_bind, Sem.run_pure, Result.andThen_ok, List.map_toArray, List.map_cons, List.map_nil, hs, hx, hr]
  refine h A c w' h2 ⟨h3.os, h3.tape, h3.output, h3.size, fun k hk => h3.block k (by omega) (fun e => ?_)⟩ h3 ?_
  · have := (hown.lt k e.symm).1
    omega
  · rcases h5 with h5 | h5
    · exact .inl h5
    · exact .inr ⟨_, h5, Nat.le_refl _⟩
end

/-- 'make([]T, n)'. -/
theorem run_mk {P : Program} {t e : TypeId} {size bytes : Nat} {z : Value} (E : Elem P t e size bytes z) (n : Nat) (hn : n ≤ 100000000) (hb : bytes ≤ 100) (w : World) :
    (Instr.makeSlice t (.int .i64 (n : Int)) (.int .i64 (n : Int))).run P w = .ok (.slice (some ⟨w.heap.size, 0, none⟩) n n) (w.alloc (.cells (madeCells z.cells (n * size)) e)) := by
  obtain ⟨i, hi, hz, hs, hbb⟩ := E.hi
  have hb' : (i.bytes : Int) * (n : Int) ≤ 281474976710656 := by
    have h1 : i.bytes * n ≤ 100 * 100000000 := Nat.mul_le_mul (by omega) hn
    have h2 : ((i.bytes * n : Nat) : Int) ≤ 281474976710656 := by omega
    rwa [Int.natCast_mul] at h2
  have hr := run_make (P := P) w t e i z E.ht hi hz .i64 .i64 n n (by omega) (by omega) hb' (by omega)
  simp only [Int.toNat_natCast, hs] at hr
  exact hr
theorem own_of_blk {w : World} {lo e size n g : Nat} {cs : Array Value} (h : Blk w g e cs) (hs : cs.size = n * size) (hn : n ≤ 100000000) (hl : lo ≤ g) : w.ownsRow lo e size (.slice (some ⟨g, 0, none⟩) n n) n cs.toList :=
  ⟨by simpa using hs, .inr ⟨g, n, cs, rfl, hl, h, Nat.le_refl _, by unfold maxLen; omega, hs, by rw [List.take_of_length_le (by simp [hs])]⟩⟩
theorem blk_cell {w : World} {g e k : Nat} {cs : Array Value} (h : Blk w g e cs) (hk : k < cs.size) : ∃ u, w.cell? ⟨g, k, none⟩ = some u := ⟨cs[k], by rw [h.cell k, Array.getElem?_eq_getElem hk]⟩

theorem own_nil (w : World) (lo e size : Nat) : w.ownsRow lo e size (.slice none 0 0) 0 [] := World.ownsRow_nil w lo e size
/-- '[]T{}': a new block of no cells. -/
theorem own_empty (w : World) (lo e size : Nat) (h : lo ≤ w.heap.size) : (w.alloc (.cells #[] e)).ownsRow lo e size (.slice (some ⟨w.heap.size, 0, none⟩) 0 0) 0 [] :=
  World.ownsRow_made w #[] 0 h (Nat.zero_le _) (by simp)
theorem own_below {w w' : World} {lo : Nat} {e : TypeId} {size n : Nat} {v : Value} {xs : List Value} (h : w.ownsRow lo e size v n xs) (hg : w.grownBy w' none) : w'.ownsRow lo e size v n xs :=
  h.kept hg (by cases hv : v.ownBlock <;> simp)
theorem own_drew {w : World} {lo : Nat} {e : TypeId} {size n : Nat} {v : Value} {xs : List Value} (h : w.ownsRow lo e size v n xs) : w.drew.ownsRow lo e size v n xs := h
theorem le_alloc_drew {w : World} {o : Obj} {n : Nat} (h : n ≤ w.heap.size) : n ≤ (w.alloc o).drew.heap.size := Nat.le_trans h (by simp)
theorem below_alloc_drew {B : Nat} {w w' : World} {o : Obj} (h : Below B (w.alloc o).drew w') (hB : B ≤ w.heap.size) : Below B w w' := ((Below.refl B w).alloc hB o).drew.trans h
theorem blk_drew {w : World} {g t : Nat} {cs : Array Value} (h : Blk w g t cs) : Blk w.drew g t cs := h
theorem own_drewN {w : World} {lo : Nat} {e : TypeId} {size n : Nat} {v : Value} {xs : List Value} (h : w.ownsRow lo e size v n xs) (m : Nat) : (w.drewN m).ownsRow lo e size v n xs := h
theorem own_kept {w w' : World} {lo : Nat} {e : TypeId} {size n : Nat} {v : Value} {xs : List Value} {row : Option Nat} (h : w.ownsRow lo e size v n xs) (hg : w.grownBy w' row) (hr : ∀ k, row = some k → k < lo ∨ v.ownBlock ≠ some k) : w'.ownsRow lo e size v n xs :=
  h.kept hg (by
    cases hv : v.ownBlock with
    | none => exact .inl rfl
    | some k =>
      refine .inr ?_
      intro e
      have h1 := hr k e.symm
      have h2 := h.lt k hv
      rcases h1 with h1 | h1
      · omega
      · exact h1 hv)
theorem below_gb {B : Nat} {w w' : World} (h : Below B w w') (hB : B = w.heap.size) : w.grownBy w' none := by subst hB; exact gb_of_below h none
theorem below_drewN {B : Nat} {a w : World} (h : Below B a w) (n : Nat) : Below B a (w.drewN n) := ⟨h.os, h.tape, h.output, h.size, h.block⟩
theorem below_gbn {B : Nat} {a w w' : World} (h : Below B a w) (hg : w.grownBy w' none) (hB : B ≤ w.heap.size) : Below B a w' := h.grown hg hB (by simp)
theorem sl_below {w w' : World} {lo size n cap B : Nat} {A : Option Addr} {cs : List Value} (h : Sl w lo size A n cap cs) (hb : Below B w w') (hB : w.heap.size ≤ B) : Sl w' lo size A n cap cs :=
  h.keep0 ⟨hb.os, hb.tape, hb.output, hb.size, fun k hk _ => hb.block k (by omega)⟩
end Go.Proofs.YtboobimpoddacaaGreatDoor

namespace Go.Proofs.YtboobimpoddacaaGreatDoor
open Go.RowKit
set_option linter.unusedVariables false

theorem intInfo : (Tryz.prog.info? 3).map (fun i => (i.zero, i.size, i.bytes)) = some (some (.int .i64 0), 1, 8) := by kernel_rfl
theorem intE : Elem Tryz.prog 62 3 1 8 (.int .i64 0) := ⟨Tryz.underlying62, info_parts intInfo, rfl, by omega⟩

def ballotOf (s : ByteArray) : List Int := s.data.toList.map fun u => (u.toNat : Int) - 97
theorem ballotOf_len (s : ByteArray) : (ballotOf s).length = s.size := by simp [ballotOf]
theorem ballotOf_at (s : ByteArray) (k : Nat) (h : k < s.size) : (ballotOf s)[k]? = some ((s[k].toNat : Int) - 97) := by
  unfold ballotOf
  rw [List.getElem?_map, List.getElem?_eq_getElem (by simpa using h)]
  rfl

/-- What a parse leaves. -/
def ParseRes (s : ByteArray) (w : World) (e : Ending) (w' : World) : Prop :=
  ∃ A c, e = .returned (.tuple #[.slice A (if ballotOK (ballotOf s) 5 then s.size else 0) c, .bool (ballotOK (ballotOf s) 5)]) ∧ w.grownBy w' none ∧
    w'.ownsRow w.heap.size 3 1 (.slice A (if ballotOK (ballotOf s) 5 then s.size else 0) c) (if ballotOK (ballotOf s) 5 then s.size else 0) ((if ballotOK (ballotOf s) 5 then ballotOf s else []).map (Value.int .i64))

theorem ParseRes.ok {s : ByteArray} {w w' : World} (h : ballotOK (ballotOf s) 5 = true) {A : Option Addr} {c : Nat} (hg : w.grownBy w' none)
    (ho : w'.ownsRow w.heap.size 3 1 (.slice A s.size c) s.size ((ballotOf s).map (Value.int .i64))) : ParseRes s w (.returned (.tuple #[.slice A s.size c, .bool true])) w' := by
  refine ⟨A, c, ?_, hg, ?_⟩ <;> simp only [h, if_true]
  exact ho
theorem ParseRes.no {s : ByteArray} {w w' : World} (h : ballotOK (ballotOf s) 5 = false) {A : Option Addr} {c : Nat} (hg : w.grownBy w' none)
    (ho : w'.ownsRow w.heap.size 3 1 (.slice A 0 c) 0 []) : ParseRes s w (.returned (.tuple #[.slice A 0 c, .bool false])) w' := by
  refine ⟨A, c, ?_, hg, ?_⟩ <;> simp only [h, Bool.false_eq_true, if_false]
  exact ho

set_option maxHeartbeats 400000 in
theorem c_spec_BallotParse (s : ByteArray) (w : World) (hs : s.size ≤ 2000000) :
    Calls Tryz.prog 97 #[.string s] w (ParseRes s w) := by
  go_enter Tryz.func97, Tryz.ntmps97
  go_wp2
  go_loopw [4, 5] (fun v i wr => ∃ (k : Nat) (A : Option Addr) (c : Nat), k ≤ s.size ∧ i = .int .i64 k ∧ v = .slice A k c ∧ wr.ownsRow w.heap.size 3 1 (.slice A k c) k (((ballotOf s).take k).map (Value.int .i64)) ∧ Below w.heap.size w wr) (fun _ i _ => s.size - (intOf i).toNat)
  case atStart => exact ⟨0, _, _, Nat.zero_le _, rfl, rfl, own_empty _ _ _ _ (Nat.le_refl _), (Below.refl _ _).alloc (Nat.le_refl _) _⟩
  case round =>
    obtain ⟨k, A, c, hk, rfl, rfl, hown, hb⟩ := hrel
    by_cases hlt : k < s.size
    · have hz := Lib.hid (ballotOf_at s k hlt)
      have hbs := hb.size
      have hu : s[k].toNat < 256 := UInt8.toNat_lt _
      go_wp2_with (at_builtin; refine wpList_app intE rfl _ _ rfl w.heap.size k _ _ rfl hown [_] rfl rfl (by simp [Value.oneCell']) (by omega) (by omega) hbs ?_; intro A' c' w1 hown1 hb1 hg1 hat1)
      go_roundw
      case rel => exact ⟨k + 1, A', c', by omega, by go_num, rfl, by rw [take_succ_of hz.out, List.map_append]; exact hown1, hb.trans hb1⟩
      case measure => simp [intOf]; omega
    · obtain rfl : k = s.size := by omega
      have hI : Ints wr w.heap.size A s.size c (ballotOf s) := by
        have := Sl.own hown
        rwa [List.take_of_length_le (by rw [ballotOf_len]; omega)] at this
      rw [List.take_of_length_le (by rw [ballotOf_len]; omega)] at hown
      by_cases hok : ballotOK (ballotOf s) 5 = true
      · go_wp2_with fail
        refine (c_spec_BallotValid w.heap.size A s.size c (ballotOf s) _ wr hI).mono ?_
        rintro e w1 ⟨rfl, d, rfl⟩
        go_wp2
        go_ret2
        exact ParseRes.ok hok (gb_of_below (below_drewN hb d) none) (own_drewN hown d)
      · have hok' : ballotOK (ballotOf s) 5 = false := by simpa using hok
        clear hok
        go_wp2_with fail
        refine (c_spec_BallotValid w.heap.size A s.size c (ballotOf s) _ wr hI).mono ?_
        rintro e w1 ⟨rfl, d, rfl⟩
        go_wp2
        go_ret2
        exact ParseRes.no hok' (gb_of_below ((below_drewN hb d).alloc hb.size _) none) (own_empty (wr.drewN d) _ _ _ hb.size)

theorem erase_bound : ∀ (m : Nat) (xs : List Int), xs.Nodup → (∀ z ∈ xs, 0 ≤ z ∧ z < (m : Int)) → xs.length ≤ m
  | 0, xs, _, h => by
    cases xs with
    | nil => simp
    | cons x xs => have := h x (by simp); omega
  | m + 1, xs, hn, h => by
    have h1 : (xs.erase (m : Int)).length ≤ m := erase_bound m _ (hn.erase _) (fun z hz => by
      rw [hn.mem_erase_iff] at hz
      have := h z hz.2
      omega)
    have h2 := List.length_erase (a := (m : Int)) (l := xs)
    split at h2 <;> omega

theorem vPre_iff (n : Int) (xs : List Int) : ∀ k, k ≤ xs.length → (vPre n xs k = true ↔ (xs.take k).Nodup ∧ ∀ z ∈ xs.take k, 0 ≤ z ∧ z < n)
  | 0, _ => by simp [vPre]
  | k + 1, hk => by
    have hz : xs[k]? = some xs[k] := List.getElem?_eq_getElem (by omega)
    rw [vPre_step hz, take_succ_of hz, Bool.and_eq_true, vPre_iff n xs k (by omega), List.nodup_append]
    simp only [Bool.and_eq_true, Bool.not_eq_true', decide_eq_false_iff_not, inB, decide_eq_true_eq, List.mem_append, List.mem_singleton]
    constructor
    · rintro ⟨⟨h1, h2⟩, ⟨h3, h4⟩, h5⟩
      refine ⟨⟨h1, by simp, ?_⟩, ?_⟩
      · rintro a ha b rfl e
        subst e
        exact h5 ha
      · rintro z (hz | rfl)
        · exact h2 z hz
        · omega
    · rintro ⟨⟨h1, _, h3⟩, h4⟩
      refine ⟨⟨h1, fun z hz => h4 z (.inl hz)⟩, ?_, fun hin => h3 _ hin _ rfl rfl⟩
      have := h4 xs[k] (.inr rfl)
      omega
theorem ballotOK_iff (xs : List Int) (n : Int) : ballotOK xs n = true ↔ (1 ≤ n ∧ n ≤ 5) ∧ xs.Nodup ∧ ∀ z ∈ xs, 0 ≤ z ∧ z < n := by
  unfold ballotOK
  rw [Bool.and_eq_true, vPre_iff n xs _ (Nat.le_refl _), List.take_length]
  simp [inB]
theorem ballotOK_len {xs : List Int} {n : Nat} (h : ballotOK xs n = true) : xs.length ≤ n := by
  rw [ballotOK_iff] at h
  exact erase_bound n xs h.2.1 h.2.2

set_option maxHeartbeats 400000 in
theorem c_impl_BallotParse (s : ByteArray) (w : World) (hs : s.size ≤ 2000000) :
    Calls Tryz.prog 80 #[.string s] w (ParseRes s w) := by
  go_enter Tryz.func80, Tryz.ntmps80
  go_wp2
  go_loopw [4, 8] (fun v i wr => ∃ (k : Nat) (A : Option Addr) (c : Nat), k ≤ s.size ∧ k ≤ 5 ∧ i = .int .i64 k ∧ v = .slice A k c ∧ wr.ownsRow w.heap.size 3 1 (.slice A k c) k (((ballotOf s).take k).map (Value.int .i64)) ∧ Below w.heap.size w wr) (fun _ i _ => s.size - (intOf i).toNat)
  case atStart => exact ⟨0, _, _, Nat.zero_le _, Nat.zero_le _, rfl, rfl, own_nil _ _ _ _, Below.refl _ _⟩
  case round =>
    obtain ⟨k, A, c, hk, hk5, rfl, rfl, hown, hb⟩ := hrel
    by_cases hlt : k < s.size
    · have hz := Lib.hid (ballotOf_at s k hlt)
      have hbs := hb.size
      have hu : s[k].toNat < 256 := UInt8.toNat_lt _
      by_cases h5 : k < 5
      · go_wp2_with (at_builtin; refine wpList_app intE rfl _ _ rfl w.heap.size k _ _ rfl hown [_] rfl rfl (by simp [Value.oneCell']) (by omega) (by omega) hbs ?_; intro A' c' w1 hown1 hb1 hg1 hat1)
        go_roundw
        case rel => exact ⟨k + 1, A', c', by omega, by omega, by go_num, rfl, by rw [take_succ_of hz.out, List.map_append]; exact hown1, hb.trans hb1⟩
        case measure => simp [intOf]; omega
      · go_wp2_with (at_builtin; refine wpList_app intE rfl _ _ rfl w.heap.size k _ _ rfl hown [_] rfl rfl (by simp [Value.oneCell']) (by omega) (by omega) hbs ?_; intro A' c' w1 hown1 hb1 hg1 hat1)
        go_ret2
        refine ParseRes.no ?_ (gb_of_below (hb.trans hb1) none) (own_nil _ _ _ _)
        cases hok : ballotOK (ballotOf s) 5 with
        | false => rfl
        | true => have := ballotOK_len (n := 5) hok; rw [ballotOf_len] at this; omega
    · obtain rfl : k = s.size := by omega
      have hI : Ints wr w.heap.size A s.size c (ballotOf s) := by
        have := Sl.own hown
        rwa [List.take_of_length_le (by rw [ballotOf_len]; omega)] at this
      rw [List.take_of_length_le (by rw [ballotOf_len]; omega)] at hown
      by_cases hok : ballotOK (ballotOf s) 5 = true
      · go_wp2_with fail
        refine (c_impl_BallotValid w.heap.size A s.size c (ballotOf s) _ wr hI).mono ?_
        rintro e w1 ⟨rfl, rfl⟩
        go_wp2
        go_ret2
        exact ParseRes.ok hok (gb_of_below hb none) hown
      · have hok' : ballotOK (ballotOf s) 5 = false := by simpa using hok
        clear hok
        go_wp2_with fail
        refine (c_impl_BallotValid w.heap.size A s.size c (ballotOf s) _ wr hI).mono ?_
        rintro e w1 ⟨rfl, rfl⟩
        go_wp2
        go_ret2
        exact ParseRes.no hok' (gb_of_below hb none) (own_nil _ _ _ _)
end Go.Proofs.YtboobimpoddacaaGreatDoor

namespace Go.Proofs.YtboobimpoddacaaGreatDoor
open Go.RowKit
set_option linter.unusedVariables false

theorem add_off (b off j : Nat) : (⟨b, off, none⟩ : Addr).add j = ⟨b, off + j, none⟩ := by
  unfold Addr.add
  split
  · simp_all
  · rfl
theorem run_app_none {P : Program} {w : World} (base : Nat) (t ty e : TypeId) (i : TypeInfo) (size c0 : Nat) (ht : P.underlying t = some (.slice e)) (hi : P.info? e = some i)
    (v : Value) (n : Nat) (xs : List Value) (hown : w.ownsRow base e size v n xs) :
    (Builtin.append_ #[t, t] ty #[v, .slice none 0 c0]).run P w = .ok v w := by
  rcases hown.2 with ⟨rfl, rfl⟩ | ⟨g, cap, cur, rfl, _, _, hnc, _⟩
  · simp [Builtin.append_, run_underlying ht, sizeOf, typeInfo, hi, Builtin.lenOf, Builtin.firstCells]
  · simp [Builtin.append_, run_underlying ht, sizeOf, typeInfo, hi, Builtin.lenOf, Builtin.firstCells, hnc, storeCells]
section
variable {P : Program} {t e : TypeId} {size bytes : Nat} {z : Value} {ops : Array Oper} {rest : List Oper} {o : Oper} {a : Act} {Q : Exit → Act → World → Prop} {w : World}
theorem run_appAll (E : Elem P t e size bytes z) (ty : TypeId) {lo lo2 n m c0 : Nat} {v : Value} {xs us : List Value} {A : Option Addr} (hown : w.ownsRow lo e size v n xs) (hs : Sl w lo2 size A m c0 us)
    (hone : ∀ u ∈ us, u.oneCell' = true) (hmax : n + m ≤ 9223372036854775807) (hn : (n + m) * bytes ≤ 140737488355328) (hlo : lo ≤ w.heap.size) :
    ∃ B c w', (Builtin.append_ #[t, t] ty #[v, .slice A m c0]).run P w = .ok (.slice B (n + m) c) w' ∧ w'.ownsRow lo e size (.slice B (n + m) c) (n + m) (xs ++ us) ∧ Below lo w w' ∧ w.grownBy w' v.ownBlock ∧
      ((Value.slice B (n + m) c).ownBlock = v.ownBlock ∨ ∃ g, (Value.slice B (n + m) c).ownBlock = some g ∧ w.heap.size ≤ g) := by
  obtain ⟨i, hi, hz, hsz, hb⟩ := E.hi
  have hvs : ∃ B c, v = .slice B n c := by
    rcases hown.2 with ⟨rfl, rfl⟩ | ⟨g, cap, cur, rfl, _⟩
    · exact ⟨_, _, rfl⟩
    · exact ⟨_, _, rfl⟩
  cases A with
  | none =>
    have hm : m = 0 := by
      rcases Nat.eq_zero_or_pos m with h | h
      · exact h
      · obtain ⟨b, off, h1, _⟩ := hs.2.2.2 h
        cases h1
    subst hm
    have hu : us = [] := List.eq_nil_of_length_eq_zero (by have := hs.2.2.1; omega)
    subst hu
    obtain ⟨B, c, rfl⟩ := hvs
    exact ⟨B, c, w, run_app_none (P := P) lo t ty e i size c0 E.ht hi _ n xs hown, by simpa using hown, Below.refl _ _, gb_refl _ _, .inl rfl⟩
  | some a0 =>
    obtain ⟨v', w', hr, h2, h3, h4, h5⟩ := run_append_own_at (P := P) w lo t ty e i z size bytes E.ht hi hz hsz hb E.hzs E.hsz v n xs hown a0 m c0 us hs.2.2.1
      (fun j u hu => by
        have hjl := (List.getElem?_eq_some_iff.1 hu).1
        have hl := hs.2.2.1
        have hm0 : 0 < m := by
          rcases Nat.eq_zero_or_pos m with h | h
          · subst h; omega
          · exact h
        obtain ⟨b, off, h1, _, _, hc⟩ := hs.2.2.2 hm0
        injection h1 with h1
        subst h1
        rw [add_off]
        exact hc j u hu) hone (by unfold maxLen; omega) hn hlo
    have hform : ∃ B c, v' = .slice B (n + m) c := by
      rcases h2.2 with ⟨rfl, h0⟩ | ⟨g, cap, cur, rfl, _⟩
      · exact ⟨none, 0, by rw [h0]⟩
      · exact ⟨_, _, rfl⟩
    obtain ⟨B, c, rfl⟩ := hform
    refine ⟨B, c, w', hr, h2, ⟨h3.os, h3.tape, h3.output, h3.size, fun k hk => h3.block k (by omega) (fun e => ?_)⟩, h3, ?_⟩
    · have := (hown.lt k e.symm).1
      omega
    · rcases h5 with h5 | h5
      · exact .inl h5
      · exact .inr ⟨_, h5, Nat.le_refl _⟩
theorem wpList_appAll (E : Elem P t e size bytes z) (hgd : o.guard = none) (s x : Operand) (ho : o.op = .call { callee := .builtin .append, args := #[s, x], argTypes := #[t, t] })
    (lo lo2 n m c0 : Nat) (v : Value) (xs us : List Value) (A : Option Addr) (hs : a.eval s = v) (hown : w.ownsRow lo e size v n xs) (hx : a.eval x = .slice A m c0) (hsl : Sl w lo2 size A m c0 us)
    (hone : ∀ u ∈ us, u.oneCell' = true) (hmax : n + m ≤ 9223372036854775807) (hn : (n + m) * bytes ≤ 140737488355328) (hlo : lo ≤ w.heap.size)
    (h : ∀ B c w', w'.ownsRow lo e size (.slice B (n + m) c) (n + m) (xs ++ us) → Below lo w w' → w.grownBy w' v.ownBlock →
      ((Value.slice B (n + m) c).ownBlock = v.ownBlock ∨ ∃ g, (Value.slice B (n + m) c).ownBlock = some g ∧ w.heap.size ≤ g) → wpList P ops Q rest (a.put o.dst (.slice B (n + m) c)) w') :
    wpList P ops Q (o :: rest) a w := by
  refine wpList_plain hgd fun K hK => ?_
  obtain ⟨B, c, w', hr, h2, h3, h4, h5⟩ := run_appAll (P := P) E o.type hown hsl hone hmax hn hlo
  unfold Oper.wp execOp
  simp only [ho, resolve, invoke, builtin, Sem.run_bind, Sem.run_pure, Result.andThen_ok, List.map_toArray, List.map_cons, List.map_nil, hs, hx, hr]
  exact hK _ _ (h B c w' h2 h3 h4 h5)
end
end Go.Proofs.YtboobimpoddacaaGreatDoor

namespace Go.Proofs.YtboobimpoddacaaGreatDoor
open Go.RowKit
set_option linter.unusedVariables false

theorem snocInd {α : Type} {motive : List α → Prop} (nil : motive []) (append_singleton : ∀ l a, motive l → motive (l ++ [a])) (l : List α) : motive l := by
  have key : ∀ t : List α, motive t.reverse := fun t => by
    induction t with
    | nil => exact nil
    | cons a t ih => rw [List.reverse_cons]; exact append_singleton _ _ ih
  rw [← List.reverse_reverse l]
  exact key _
/-- 0, 1, .. n - 1. -/
def iota (n : Nat) : List Int := (List.range n).map (fun (k : Nat) => (k : Int))
theorem iota_len (n : Nat) : (iota n).length = n := by simp [iota]
theorem iota_succ (n : Nat) : iota (n + 1) = iota n ++ [(n : Int)] := by simp [iota, List.range_succ]
theorem iota_at {n k : Nat} (h : k < n) : (iota n)[k]? = some (k : Int) := by simp [iota, h]
theorem mem_iota {n : Nat} {z : Int} : z ∈ iota n ↔ 0 ≤ z ∧ z < n := by
  simp only [iota, List.mem_map, List.mem_range]
  constructor
  · rintro ⟨a, h, rfl⟩; omega
  · rintro ⟨h1, h2⟩; exact ⟨z.toNat, by omega, by omega⟩
theorem iota_nodup (n : Nat) : (iota n).Nodup := by
  unfold iota
  exact List.Pairwise.map _ (fun a b hab e => hab (by omega)) List.nodup_range

/-- One candidate after the other from those that are left. -/
def lotsGo : Nat → List Int → Nat → List Int
  | 0, _, _ => []
  | n + 1, left, seed => left.getD (seed % (n + 1)) 0 :: lotsGo n (left.eraseIdx (seed % (n + 1))) (seed / (n + 1))
theorem lotsGo_perm : ∀ (n : Nat) (left : List Int) (seed : Nat), left.length = n → (lotsGo n left seed).Perm left
  | 0, left, seed, h => by
    rw [List.eq_nil_of_length_eq_zero h]
    exact List.Perm.refl _
  | n + 1, left, seed, h => by
    have hi : seed % (n + 1) < left.length := by rw [h]; exact Nat.mod_lt _ (by omega)
    have h1 : left = left.take (seed % (n + 1)) ++ left.getD (seed % (n + 1)) 0 :: left.drop (seed % (n + 1) + 1) := by
      rw [List.getD_eq_getElem?_getD, List.getElem?_eq_getElem hi, Option.getD_some, ← List.drop_eq_getElem_cons hi, List.take_append_drop]
    have h2 := lotsGo_perm n (left.eraseIdx (seed % (n + 1))) (seed / (n + 1)) (by rw [List.length_eraseIdx, if_pos hi, h]; omega)
    rw [lotsGo]
    refine (List.Perm.cons _ h2).trans ?_
    rw [List.eraseIdx_eq_take_drop_succ]
    refine List.Perm.trans ?_ (List.Perm.of_eq h1.symm)
    exact List.perm_middle.symm
theorem lotsGo_len (n : Nat) (left : List Int) (seed : Nat) (h : left.length = n) : (lotsGo n left seed).length = n := by rw [(lotsGo_perm n left seed h).length_eq, h]
/-- The lots of a seed. -/
def lotsOf (n seed : Nat) : List Int := lotsGo n (iota n) seed
theorem lotsOf_perm (n seed : Nat) : (lotsOf n seed).Perm (iota n) := lotsGo_perm n _ _ (iota_len n)
theorem lotsOf_len (n seed : Nat) : (lotsOf n seed).length = n := lotsGo_len n _ _ (iota_len n)
def lotsOK (n seed : Int) : Bool := inB n 1 5 && inB seed 0 999
def lotsValid (xs : List Int) : Bool := ballotOK xs xs.length
theorem perm_valid {n : Nat} {xs : List Int} (h : xs.Perm (iota n)) (hn : 1 ≤ n ∧ n ≤ 5) : lotsValid xs = true := by
  unfold lotsValid
  rw [ballotOK_iff, h.length_eq, iota_len]
  exact ⟨by omega, h.nodup_iff.2 (iota_nodup n), fun z hz => mem_iota.1 (h.mem_iff.1 hz)⟩
theorem lotsOK_iff (n seed : Int) : lotsOK n seed = true ↔ (1 ≤ n ∧ n ≤ 5) ∧ 0 ≤ seed ∧ seed ≤ 999 := by
  unfold lotsOK inB
  simp

/-- A count. -/
def cAt (cs : List Int) (c : Int) : Int := cs.getD c.toNat 0
def gStep (cs : List Int) (b c : Int) : Int := if cAt cs b < cAt cs c then c else b
/-- The candidate with the greatest count, by lots. -/
def gBest (cs lots : List Int) : Int := lots.foldl (gStep cs) (lots.headD 0)
/-- The first of some in the lots, or -1. -/
def firstOf (lots : List Int) (bs : List Bool) : Int := (lots.find? (fun c => bs.getD c.toNat false)).getD (-1)

theorem best_aux (v : Int → Int) : ∀ (rest l1 : List Int) (b : Int) (l2 : List Int), (∀ d ∈ l1, v d < v b) → (∀ d ∈ l2, v d ≤ v b) →
    (l1 ++ b :: l2 ++ rest).find? (fun c => decide (∀ d ∈ l1 ++ b :: l2 ++ rest, v d ≤ v c)) = some (rest.foldl (fun b c => if v b < v c then c else b) b)
  | [], l1, b, l2, h1, h2 => by
    rw [List.append_nil, List.foldl_nil, List.find?_eq_some_iff_append]
    refine ⟨?_, l1, l2, rfl, fun a ha => ?_⟩
    · rw [decide_eq_true_eq]
      intro d hd
      rcases List.mem_append.1 hd with hd | hd
      · exact Int.le_of_lt (h1 d hd)
      · rcases List.mem_cons.1 hd with rfl | hd
        · exact Int.le_refl _
        · exact h2 d hd
    · simp only [Bool.not_eq_true', decide_eq_false_iff_not]
      intro h
      have := h b (by simp)
      have := h1 a ha
      omega
  | c :: rest, l1, b, l2, h1, h2 => by
    rw [List.foldl_cons]
    by_cases hc : v b < v c
    · rw [if_pos hc]
      have := best_aux v rest (l1 ++ b :: l2) c [] (fun d hd => by
        rcases List.mem_append.1 hd with hd | hd
        · have := h1 d hd; omega
        · rcases List.mem_cons.1 hd with rfl | hd
          · exact hc
          · have := h2 d hd; omega) (by simp)
      rw [show l1 ++ b :: l2 ++ c :: rest = l1 ++ b :: l2 ++ c :: [] ++ rest from by simp]
      exact this
    · rw [if_neg hc]
      have := best_aux v rest l1 b (l2 ++ [c]) h1 (fun d hd => by
        rcases List.mem_append.1 hd with hd | hd
        · exact h2 d hd
        · rw [List.mem_singleton.1 hd]; omega)
      rw [show l1 ++ b :: l2 ++ c :: rest = l1 ++ b :: (l2 ++ [c]) ++ rest from by simp]
      exact this
theorem gBest_find (cs : List Int) {lots : List Int} (h : lots ≠ []) : lots.find? (fun c => decide (∀ d ∈ lots, cAt cs d ≤ cAt cs c)) = some (gBest cs lots) := by
  cases lots with
  | nil => exact absurd rfl h
  | cons a l =>
    have := best_aux (cAt cs) l [] a [] (by simp) (by simp)
    unfold gBest
    rw [List.headD_cons, List.foldl_cons]
    have h0 : gStep cs a a = a := by unfold gStep; rw [if_neg (by omega)]
    rw [h0]
    exact this
theorem gBest_mem (cs : List Int) {lots : List Int} (h : lots ≠ []) : gBest cs lots ∈ lots ∧ ∀ d ∈ lots, cAt cs d ≤ cAt cs (gBest cs lots) := by
  have := gBest_find cs h
  have h1 := List.find?_some this
  exact ⟨List.mem_of_find?_eq_some this, by simpa using h1⟩

/-- The greatest count of some. -/
def mFold (l : List (Int × Bool)) (m : Int) : Int := l.foldl (fun m p => if p.2 then max m p.1 else m) m
theorem mFold_snoc (l : List (Int × Bool)) (p : Int × Bool) (m : Int) : mFold (l ++ [p]) m = if p.2 then max (mFold l m) p.1 else mFold l m := by
  unfold mFold
  rw [List.foldl_append]
  rfl
theorem mFold_spec : ∀ (l : List (Int × Bool)) (m : Int), m ≤ mFold l m ∧ (∀ p ∈ l, p.2 = true → p.1 ≤ mFold l m) ∧ (mFold l m = m ∨ ∃ p ∈ l, p.2 = true ∧ p.1 = mFold l m)
  | [], m => ⟨Int.le_refl _, by simp, .inl rfl⟩
  | p :: l, m => by
    obtain ⟨h1, h2, h3⟩ := mFold_spec l (if p.2 then max m p.1 else m)
    have e : mFold (p :: l) m = mFold l (if p.2 then max m p.1 else m) := rfl
    rw [e]
    have hm : m ≤ (if p.2 then max m p.1 else m) := by split <;> omega
    refine ⟨by omega, fun q hq hq2 => ?_, ?_⟩
    · rcases List.mem_cons.1 hq with rfl | hq
      · rw [if_pos hq2] at h1 ⊢
        exact Int.le_trans (Int.le_max_right m q.1) h1
      · exact h2 q hq hq2
    · rcases h3 with h3 | ⟨q, hq, hq2, h3⟩
      · by_cases hp : p.2 = true
        · rw [if_pos hp] at h3 ⊢
          rcases Int.le_total m p.1 with hle | hle
          · exact .inr ⟨p, by simp, hp, by rw [h3]; omega⟩
          · exact .inl (by rw [h3]; omega)
        · rw [if_neg hp] at h3 ⊢
          exact .inl h3
      · exact .inr ⟨q, List.mem_cons_of_mem _ hq, hq2, h3⟩
def mMax (cs : List Int) (some : List Bool) : Int := mFold (cs.zip some) (-1)
/-- Who has the greatest of some counts. -/
def mostB (cs : List Int) (some : List Bool) : List Bool := (cs.zip some).map (fun p => p.2 && decide (p.1 = mMax cs some))
/-- The counts of some; -1 for the others. -/
def cutB (cs : List Int) (some : List Bool) : List Int := (cs.zip some).map (fun p => if p.2 then p.1 else -1)
theorem find_congr {l : List Int} {p q : Int → Bool} (h : ∀ c ∈ l, p c = q c) : l.find? p = l.find? q := by
  induction l with
  | nil => rfl
  | cons a l ih =>
    rw [List.find?_cons, List.find?_cons, h a (by simp), ih (fun c hc => h c (List.mem_cons_of_mem _ hc))]
theorem most_first {n : Nat} {lots cs : List Int} {bs : List Bool} (hp : lots.Perm (iota n)) (hl : cs.length = n) (hs : bs.length = n) (hnn : ∀ z ∈ cs, 0 ≤ z) (hex : ∃ c : Nat, c < n ∧ bs[c]? = some true) :
    firstOf lots (mostB cs bs) = gBest (cutB cs bs) lots := by
  obtain ⟨c0, hc0, hb0⟩ := hex
  have hne : lots ≠ [] := by
    intro e
    rw [e] at hp
    have := hp.length_eq
    rw [iota_len] at this
    simp at this
    omega
  have hz : ∀ (i : Nat) (z : Int) (b : Bool), (cs.zip bs)[i]? = some (z, b) ↔ cs[i]? = some z ∧ bs[i]? = some b := fun i z b => List.getElem?_zip_eq_some
  have hcut : ∀ (i : Nat) (z : Int) (b : Bool), cs[i]? = some z → bs[i]? = some b → cAt (cutB cs bs) (i : Int) = if b then z else -1 := fun i z b h1 h2 => by
    unfold cAt cutB
    rw [Int.toNat_natCast, List.getD_eq_getElem?_getD, List.getElem?_map, (hz i z b).2 ⟨h1, h2⟩]
    rfl
  have hmo : ∀ (i : Nat) (z : Int) (b : Bool), cs[i]? = some z → bs[i]? = some b → (mostB cs bs).getD i false = (b && decide (z = mMax cs bs)) := fun i z b h1 h2 => by
    unfold mostB
    rw [List.getD_eq_getElem?_getD, List.getElem?_map, (hz i z b).2 ⟨h1, h2⟩]
    rfl
  obtain ⟨s1, s2, s3⟩ := mFold_spec (cs.zip bs) (-1)
  have hM : mFold (cs.zip bs) (-1) = mMax cs bs := rfl
  rw [hM] at s1 s2 s3
  have hat : ∀ i : Nat, i < n → ∃ z b, cs[i]? = some z ∧ bs[i]? = some b := fun i hi => ⟨cs[i]'(by omega), bs[i]'(by omega), List.getElem?_eq_getElem _, List.getElem?_eq_getElem _⟩
  obtain ⟨z0, hz0⟩ : ∃ z, cs[c0]? = some z := ⟨cs[c0]'(by omega), List.getElem?_eq_getElem _⟩
  have hM0 : 0 ≤ mMax cs bs := by
    have := s2 (z0, true) (List.mem_of_getElem? ((hz c0 z0 true).2 ⟨hz0, hb0⟩)) rfl
    have := hnn z0 (List.mem_of_getElem? hz0)
    omega
  obtain ⟨m0, z1, hm1, hm1b, hm2⟩ : ∃ i z, cs[i]? = some z ∧ bs[i]? = some true ∧ z = mMax cs bs := by
    rcases s3 with s3 | ⟨⟨z, b⟩, hq, hq2, s3⟩
    · omega
    · obtain ⟨i, hi⟩ := List.mem_iff_getElem?.1 hq
      have := (hz i z b).1 hi
      have hq2 : b = true := hq2
      subst hq2
      exact ⟨i, z, this.1, this.2, s3⟩
  have hmn : m0 < n := by rw [← hl]; exact (List.getElem?_eq_some_iff.1 hm1).1
  have hcong : ∀ c ∈ lots, (fun c => (mostB cs bs).getD (Int.toNat c) false) c = (fun c => decide (∀ d ∈ lots, cAt (cutB cs bs) d ≤ cAt (cutB cs bs) c)) c := by
    intro c hc
    have hcr := mem_iota.1 (hp.mem_iff.1 hc)
    obtain ⟨i, rfl⟩ : ∃ i : Nat, c = (i : Int) := ⟨c.toNat, by omega⟩
    obtain ⟨z, b, h1, h2⟩ := hat i (by omega)
    show (mostB cs bs).getD ((i : Int)).toNat false = _
    rw [Int.toNat_natCast, hmo i z b h1 h2, Bool.eq_iff_iff, Bool.and_eq_true, decide_eq_true_eq, decide_eq_true_eq]
    constructor
    · rintro ⟨rfl, rfl⟩ d hd
      have hdr := mem_iota.1 (hp.mem_iff.1 hd)
      obtain ⟨j, rfl⟩ : ∃ j : Nat, d = (j : Int) := ⟨d.toNat, by omega⟩
      obtain ⟨y, b', h3, h4⟩ := hat j (by omega)
      rw [hcut i _ _ h1 h2, hcut j y b' h3 h4]
      simp only [if_true]
      cases b' with
      | true => simp only [if_true]; exact s2 (y, true) (List.mem_of_getElem? ((hz j y true).2 ⟨h3, h4⟩)) rfl
      | false => simp; omega
    · intro h
      have := h (m0 : Int) (hp.mem_iff.2 (mem_iota.2 (by omega)))
      rw [hcut i z b h1 h2, hcut m0 z1 true hm1 hm1b] at this
      simp only [if_true] at this
      cases b with
      | false => simp at this; omega
      | true =>
        simp only [if_true] at this
        have h5 := s2 (z, true) (List.mem_of_getElem? ((hz i z true).2 ⟨h1, h2⟩)) rfl
        have h5 : z ≤ mMax cs bs := h5
        exact ⟨rfl, by omega⟩
  unfold firstOf
  rw [find_congr hcong, gBest_find _ hne]
  rfl
theorem cutB_all (cs : List Int) : cutB cs (List.replicate cs.length true) = cs := by
  unfold cutB
  apply List.ext_getElem?
  intro i
  rw [List.getElem?_map]
  cases h : cs[i]? with
  | none =>
    have : (cs.zip (List.replicate cs.length true))[i]? = none := by
      rw [List.getElem?_eq_none_iff] at h ⊢
      simp
      omega
    rw [this]
    rfl
  | some z =>
    have hi : i < cs.length := (List.getElem?_eq_some_iff.1 h).1
    have : (cs.zip (List.replicate cs.length true))[i]? = some (z, true) := by
      rw [List.getElem?_zip_eq_some]
      exact ⟨h, by rw [List.getElem?_replicate, if_pos hi]⟩
    rw [this]
    rfl
theorem plur_first {n : Nat} {lots cs : List Int} (hp : lots.Perm (iota n)) (hl : cs.length = n) (hn : 1 ≤ n) (hnn : ∀ z ∈ cs, 0 ≤ z) : firstOf lots (mostB cs (List.replicate n true)) = gBest cs lots := by
  have := most_first (bs := List.replicate n true) hp hl (by simp) hnn ⟨0, by omega, by rw [List.getElem?_replicate, if_pos (by omega)]⟩
  rw [this]
  subst hl
  rw [cutB_all]
theorem firstOf_mem {lots : List Int} {bs : List Bool} {c : Int} (hc : c ∈ lots) (hb : bs.getD c.toNat false = true) : firstOf lots bs ∈ lots ∧ bs.getD (firstOf lots bs).toNat false = true := by
  unfold firstOf
  cases h : lots.find? (fun c => bs.getD c.toNat false) with
  | none =>
    have := List.find?_eq_none.1 h c hc
    exact absurd hb this
  | some d => exact ⟨List.mem_of_find?_eq_some h, by have := List.find?_some h; simpa using this⟩
theorem firstOf_cons (c : Int) (l : List Int) (bs : List Bool) : firstOf (c :: l) bs = if bs.getD c.toNat false = true then c else firstOf l bs := by
  unfold firstOf
  rw [List.find?_cons]
  cases bs.getD c.toNat false <;> rfl
end Go.Proofs.YtboobimpoddacaaGreatDoor

namespace Go.Proofs.YtboobimpoddacaaGreatDoor
open Go.RowKit
set_option linter.unusedVariables false

/-- A pile: its text, its number of ballots. -/
abbrev Pl := ByteArray × Int

/-! ### the order of texts -/
def sLt (a b : ByteArray) : Bool := Op.bytesLess a.toList b.toList
theorem bLess_eq : ∀ (x y : List UInt8), Op.bytesLess x y = decide (x < y)
  | [], [] => by simp [Op.bytesLess]
  | _ :: _, [] => by simp [Op.bytesLess]
  | [], _ :: _ => by simp [Op.bytesLess]
  | a :: x, b :: y => by
    rw [Op.bytesLess, bLess_eq x y]
    simp only [List.cons_lt_cons_iff]
    by_cases h1 : a < b <;> by_cases h2 : a = b <;> by_cases h3 : x < y <;> simp [h1, h2, h3]
theorem sLt_iff (a b : ByteArray) : sLt a b = true ↔ a.toList < b.toList := by unfold sLt; rw [bLess_eq]; simp
theorem sLt_irrefl (a : ByteArray) : sLt a a = false := by
  rw [← Bool.not_eq_true, sLt_iff]; exact List.lt_irrefl _
theorem sLt_trans {a b c : ByteArray} (h : sLt a b = true) (k : sLt b c = true) : sLt a c = true := by
  rw [sLt_iff] at *; exact List.lt_trans h k
theorem sLt_asymm {a b : ByteArray} (h : sLt a b = true) : sLt b a = false := by
  rw [← Bool.not_eq_true]
  intro k
  have := sLt_trans h k
  rw [sLt_irrefl] at this
  cases this
theorem sLt_tri {a b : ByteArray} (h : sLt a b = false) (hne : a ≠ b) : sLt b a = true := by
  rw [← Bool.not_eq_true, sLt_iff] at h
  rw [sLt_iff]
  rcases List.le_total a.toList b.toList with h1 | h1
  · exact absurd (List.le_antisymm h1 (List.not_lt.1 h)) (fun e => hne (str_ext e))
  · rcases Decidable.em (b.toList < a.toList) with h2 | h2
    · exact h2
    · exact absurd (List.le_antisymm (List.not_lt.1 h2) h1) (fun e => hne (str_ext e))
theorem sLt_ne {a b : ByteArray} (h : sLt a b = true) : a ≠ b := by
  rintro rfl
  rw [sLt_irrefl] at h
  cases h

/-! ### valid piles -/
def plOK (p : Pl) : Bool := ballotOK (ballotOf p.1) 5 && inB p.2 1 99
def stepOK (ps : List Pl) (k : Nat) (p : Pl) : Bool := decide (k = 0) || (match ps[k - 1]? with | some q => sLt q.1 p.1 | none => false)
/-- The first k piles are valid, their texts ascend. -/
def pPre (ps : List Pl) : Nat → Bool
  | 0 => true
  | k + 1 => pPre ps k && (match ps[k]? with | some p => plOK p && stepOK ps k p | none => false)
def pilesOK (ps : List Pl) : Bool := pPre ps ps.length && decide (ps.length ≤ 12)
theorem pPre_step {ps : List Pl} {k : Nat} {p : Pl} (h : ps[k]? = some p) : pPre ps (k + 1) = (pPre ps k && (plOK p && stepOK ps k p)) := by
  simp only [pPre, h]
theorem pPre_false {ps : List Pl} {k : Nat} (h : pPre ps k = false) : ∀ {m : Nat}, k ≤ m → pPre ps m = false
  | 0, hm => by
    obtain rfl : k = 0 := by omega
    exact h
  | m + 1, hm => by
    rcases Nat.lt_or_ge m k with hlt | hge
    · obtain rfl : k = m + 1 := by omega
      exact h
    · simp only [pPre, pPre_false h hge, Bool.false_and]
theorem piles_bad {ps : List Pl} {k : Nat} {p : Pl} (h : ps[k]? = some p) (hb : (plOK p && stepOK ps k p) = false) : pilesOK ps = false := by
  have hk : k < ps.length := (List.getElem?_eq_some_iff.1 h).1
  have : pPre ps (k + 1) = false := by rw [pPre_step h, hb, Bool.and_false]
  unfold pilesOK
  rw [pPre_false this (by omega), Bool.false_and]

/-- Ascending texts. -/
def Asc (ps : List Pl) : Prop := ps.Pairwise fun p q => sLt p.1 q.1 = true
theorem pPre_all {ps : List Pl} : ∀ {k : Nat}, k ≤ ps.length → pPre ps k = true → (∀ p ∈ ps.take k, plOK p = true) ∧ Asc (ps.take k)
  | 0, _, _ => ⟨by simp, by simp [Asc]⟩
  | k + 1, hk, h => by
    have hp : ps[k]? = some ps[k] := List.getElem?_eq_getElem (by omega)
    rw [pPre_step hp, Bool.and_eq_true, Bool.and_eq_true] at h
    obtain ⟨h0, h1, h2⟩ := h
    obtain ⟨i1, i2⟩ := pPre_all (k := k) (by omega) h0
    rw [take_succ_of hp]
    refine ⟨fun p hm => ?_, ?_⟩
    · rcases List.mem_append.1 hm with hm | hm
      · exact i1 p hm
      · rw [List.mem_singleton.1 hm]; exact h1
    · unfold Asc at i2 ⊢
      rw [List.pairwise_append]
      refine ⟨i2, by simp, fun a ha b hb => ?_⟩
      rw [List.mem_singleton.1 hb]
      obtain ⟨j, hj, rfl⟩ := List.mem_iff_getElem.1 ha
      have hjk : j < k := by
        rw [List.length_take] at hj
        omega
      have hk1 : ps[k - 1]? = some ps[k - 1] := List.getElem?_eq_getElem (by omega)
      simp only [stepOK, hk1, Bool.or_eq_true, decide_eq_true_eq] at h2
      have h2 : sLt ps[k - 1].1 ps[k].1 = true := by
        rcases h2 with h2 | h2
        · omega
        · exact h2
      rcases Nat.lt_or_ge j (k - 1) with hlt | hge
      · rw [List.pairwise_iff_getElem] at i2
        have := i2 j (k - 1) hj (by simp; omega) hlt
        simp only [List.getElem_take] at this ⊢
        exact sLt_trans this h2
      · obtain rfl : j = k - 1 := by omega
        simp only [List.getElem_take]
        exact h2
theorem pPre_of {ps : List Pl} (h : ∀ p ∈ ps, plOK p = true) (ha : Asc ps) : ∀ {k : Nat}, k ≤ ps.length → pPre ps k = true
  | 0, _ => rfl
  | k + 1, hk => by
    have hp : ps[k]? = some ps[k] := List.getElem?_eq_getElem (by omega)
    rw [pPre_step hp, pPre_of h ha (by omega), h _ (List.getElem_mem _)]
    simp only [Bool.true_and, stepOK, Bool.or_eq_true, decide_eq_true_eq]
    rcases Nat.eq_zero_or_pos k with h0 | h0
    · exact .inl h0
    · have hk1 : ps[k - 1]? = some ps[k - 1] := List.getElem?_eq_getElem (by omega)
      rw [hk1]
      exact .inr ((List.pairwise_iff_getElem.1 ha) (k - 1) k (by omega) (by omega) (by omega))
theorem pilesOK_iff (ps : List Pl) : pilesOK ps = true ↔ (∀ p ∈ ps, plOK p = true) ∧ Asc ps ∧ ps.length ≤ 12 := by
  constructor
  · intro h
    unfold pilesOK at h
    rw [Bool.and_eq_true, decide_eq_true_eq] at h
    obtain ⟨h1, h2⟩ := pPre_all (Nat.le_refl _) h.1
    rw [List.take_length] at h1 h2
    exact ⟨h1, h2, h.2⟩
  · rintro ⟨h1, h2, h3⟩
    unfold pilesOK
    rw [pPre_of h1 h2 (Nat.le_refl _), decide_eq_true h3]
    rfl
theorem plOK_many {p : Pl} (h : plOK p = true) : 1 ≤ p.2 ∧ p.2 ≤ 99 := by
  unfold plOK at h
  rw [Bool.and_eq_true] at h
  simpa [inB] using h.2

/-! ### what many piles come to together -/
def put : List Pl → ByteArray → Int → List Pl
  | [], t, m => [(t, m)]
  | p :: ps, t, m => if sLt p.1 t then p :: put ps t m else if p.1 = t then (t, IntKind.i64.wrap (p.2 + m)) :: ps else (t, m) :: p :: ps
def canonFrom (ps es : List Pl) : List Pl := es.foldl (fun ps e => put ps e.1 e.2) ps
def canon (es : List Pl) : List Pl := canonFrom [] es
/-- All ballots of a text. -/
def tot (es : List Pl) (t : ByteArray) : Int := ((es.filter fun e => decide (e.1 = t)).map (·.2)).sum
theorem tot_nil (t : ByteArray) : tot [] t = 0 := rfl
theorem tot_cons (e : Pl) (es : List Pl) (t : ByteArray) : tot (e :: es) t = (if e.1 = t then e.2 else 0) + tot es t := by
  unfold tot
  by_cases h : e.1 = t <;> simp [h]
theorem tot_append (a b : List Pl) (t : ByteArray) : tot (a ++ b) t = tot a t + tot b t := by
  unfold tot
  rw [List.filter_append, List.map_append, List.sum_append]
theorem put_length (ps : List Pl) (t : ByteArray) (m : Int) : (put ps t m).length ≤ ps.length + 1 := by
  induction ps with
  | nil => simp [put]
  | cons p ps ih =>
    rw [put]
    split
    · simp only [List.length_cons]; omega
    · split <;> simp
theorem put_texts (ps : List Pl) (t : ByteArray) (m : Int) (u : ByteArray) : u ∈ (put ps t m).map (·.1) ↔ u = t ∨ u ∈ ps.map (·.1) := by
  induction ps with
  | nil => simp [put]
  | cons p ps ih =>
    rw [put]
    split
    · simp only [List.map_cons, List.mem_cons, ih]
      constructor
      · rintro (h | h | h)
        · exact .inr (.inl h)
        · exact .inl h
        · exact .inr (.inr h)
      · rintro (h | h | h)
        · exact .inr (.inl h)
        · exact .inl h
        · exact .inr (.inr h)
    · split
      · rename_i h1 h2
        subst h2
        simp
      · simp
theorem put_head {ps : List Pl} {t : ByteArray} {m : Int} {a : ByteArray} (h : ∀ p ∈ ps, sLt a p.1 = true) (hat : sLt a t = true) : ∀ p ∈ put ps t m, sLt a p.1 = true := by
  intro p hp
  have : p.1 ∈ (put ps t m).map (·.1) := List.mem_map.2 ⟨p, hp, rfl⟩
  rw [put_texts] at this
  rcases this with h1 | h1
  · rw [h1]; exact hat
  · obtain ⟨q, hq, h2⟩ := List.mem_map.1 h1
    rw [← h2]; exact h q hq
theorem put_asc {ps : List Pl} {t : ByteArray} {m : Int} (h : Asc ps) : Asc (put ps t m) := by
  unfold Asc at *
  induction ps with
  | nil => simp [put]
  | cons p ps ih =>
    rw [List.pairwise_cons] at h
    rw [put]
    split
    · rename_i h1
      exact List.pairwise_cons.2 ⟨put_head h.1 h1, ih h.2⟩
    · rename_i h1
      have h1 : sLt p.1 t = false := by simpa using h1
      split
      · rename_i h2
        subst h2
        exact List.pairwise_cons.2 ⟨h.1, h.2⟩
      · rename_i h2
        have h3 := sLt_tri h1 h2
        refine List.pairwise_cons.2 ⟨fun q hq => ?_, List.pairwise_cons.2 h⟩
        rcases List.mem_cons.1 hq with rfl | hq
        · exact h3
        · exact sLt_trans h3 (h.1 q hq)
/-- Ballots of a text of a list whose texts differ. -/
def look : List Pl → ByteArray → Int
  | [], _ => 0
  | p :: ps, t => if p.1 = t then p.2 else look ps t
theorem look_none {ps : List Pl} {t : ByteArray} (h : t ∉ ps.map (·.1)) : look ps t = 0 := by
  induction ps with
  | nil => rfl
  | cons p ps ih =>
    simp only [List.map_cons, List.mem_cons, not_or] at h
    rw [look, if_neg (fun e => h.1 e.symm), ih h.2]
theorem look_mem {ps : List Pl} (h : Asc ps) {p : Pl} (hp : p ∈ ps) : look ps p.1 = p.2 := by
  unfold Asc at h
  induction ps with
  | nil => cases hp
  | cons q ps ih =>
    rw [List.pairwise_cons] at h
    rw [look]
    rcases List.mem_cons.1 hp with rfl | hp
    · rw [if_pos rfl]
    · rw [if_neg (sLt_ne (h.1 p hp)), ih h.2 hp]
theorem put_look {ps : List Pl} {t : ByteArray} {m : Int} (h : Asc ps) (u : ByteArray) (hb : IntKind.i64.wrap (look ps t + m) = look ps t + m) : look (put ps t m) u = look ps u + (if u = t then m else 0) := by
  unfold Asc at h
  induction ps with
  | nil =>
    by_cases hu : u = t
    · subst hu; simp [put, look]
    · rw [put, look, look, if_neg (fun e => hu e.symm), if_neg hu]; rfl
  | cons p ps ih =>
    rw [List.pairwise_cons] at h
    rw [put]
    split
    · rename_i h1
      have hpt := sLt_ne h1
      rw [look, look, if_neg hpt] at *
      by_cases hu : p.1 = u
      · rw [if_pos hu, if_pos hu, if_neg (fun e => hpt (hu.trans e))]
        omega
      · rw [if_neg hu, if_neg hu]
        exact ih h.2 hb
    · rename_i h1
      have h1 : sLt p.1 t = false := by simpa using h1
      split
      · rename_i h2
        subst h2
        rw [look, if_pos rfl] at hb
        rw [look, look]
        by_cases hu : p.1 = u
        · rw [if_pos hu, if_pos hu, if_pos hu.symm, hb]
        · rw [if_neg hu, if_neg hu, if_neg (fun e => hu e.symm)]
          omega
      · rename_i h2
        have h3 := sLt_tri h1 h2
        rw [look]
        by_cases hu : t = u
        · subst hu
          rw [if_pos rfl, if_pos rfl]
          have : t ∉ (p :: ps).map (·.1) := by
            intro hm
            obtain ⟨q, hq, h4⟩ := List.mem_map.1 hm
            rcases List.mem_cons.1 hq with rfl | hq
            · exact h2 h4
            · exact sLt_ne (sLt_trans h3 (h.1 q hq)) h4.symm
          rw [look_none this]
          omega
        · rw [if_neg hu, if_neg (fun e => hu e.symm)]
          omega
/-- Two ascending lists with the same texts, the same ballots of each. -/
theorem asc_ext {a b : List Pl} (ha : Asc a) (hb : Asc b) (ht : ∀ t, t ∈ a.map (·.1) ↔ t ∈ b.map (·.1)) (hl : ∀ t, look a t = look b t) : a = b := by
  induction a generalizing b with
  | nil =>
    cases b with
    | nil => rfl
    | cons q b => exact absurd ((ht q.1).2 (by simp)) (by simp)
  | cons p a ih =>
    cases b with
    | nil => exact absurd ((ht p.1).1 (by simp)) (by simp)
    | cons q b =>
      unfold Asc at ha hb
      rw [List.pairwise_cons] at ha hb
      have hpq : p.1 = q.1 := by
        have h1 : p.1 ∈ (q :: b).map (·.1) := (ht _).1 (by simp)
        have h2 : q.1 ∈ (p :: a).map (·.1) := (ht _).2 (by simp)
        obtain ⟨x, hx, e1⟩ := List.mem_map.1 h1
        obtain ⟨y, hy, e2⟩ := List.mem_map.1 h2
        rcases List.mem_cons.1 hx with rfl | hx
        · exact e1.symm
        · rcases List.mem_cons.1 hy with rfl | hy
          · exact e2
          · have h3 := hb.1 x hx
            have h4 := ha.1 y hy
            rw [e1] at h3
            rw [e2] at h4
            rw [sLt_asymm h3] at h4
            cases h4
      have hv : p.2 = q.2 := by
        have := hl p.1
        rw [look, look, if_pos rfl, if_pos hpq.symm] at this
        exact this
      have hn : ∀ {c : List Pl} {z : Pl}, (∀ x ∈ c, sLt z.1 x.1 = true) → z.1 ∉ c.map (·.1) := by
        intro c z hz hm
        obtain ⟨x, hx, e⟩ := List.mem_map.1 hm
        exact sLt_ne (hz x hx) e.symm
      have hna := hn ha.1
      have hnb := hn hb.1
      have : a = b := by
        refine ih ha.2 hb.2 (fun t => ?_) (fun t => ?_)
        · have := ht t
          simp only [List.map_cons, List.mem_cons, ← hpq] at this
          constructor
          · intro h
            rcases this.1 (.inr h) with e | e
            · subst e; exact absurd h hna
            · exact e
          · intro h
            rcases this.2 (.inr h) with e | e
            · subst e; rw [hpq] at h; exact absurd h hnb
            · exact e
        · by_cases e : p.1 = t
          · subst e
            rw [look_none hna, look_none (by rw [hpq]; exact hnb)]
          · have := hl t
            rwa [look, look, if_neg e, if_neg (fun e' => e (hpq.trans e'))] at this
      subst this
      congr 1
      exact Prod.ext hpq hv

theorem canonFrom_nil (ps : List Pl) : canonFrom ps [] = ps := rfl
theorem canonFrom_cons (ps : List Pl) (e : Pl) (es : List Pl) : canonFrom ps (e :: es) = canonFrom (put ps e.1 e.2) es := rfl
theorem canonFrom_append (ps es fs : List Pl) : canonFrom ps (es ++ fs) = canonFrom (canonFrom ps es) fs := List.foldl_append
theorem canonFrom_asc {ps : List Pl} (h : Asc ps) (es : List Pl) : Asc (canonFrom ps es) := by
  induction es generalizing ps with
  | nil => exact h
  | cons e es ih => exact ih (put_asc h)
theorem canonFrom_texts (ps es : List Pl) (t : ByteArray) : t ∈ (canonFrom ps es).map (·.1) ↔ t ∈ ps.map (·.1) ∨ t ∈ es.map (·.1) := by
  induction es generalizing ps with
  | nil => simp [canonFrom_nil]
  | cons e es ih =>
    rw [canonFrom_cons, ih, put_texts]
    simp only [List.map_cons, List.mem_cons]
    constructor
    · rintro ((h | h) | h)
      · exact .inr (.inl h)
      · exact .inl h
      · exact .inr (.inr h)
    · rintro (h | h | h)
      · exact .inl (.inr h)
      · exact .inl (.inl h)
      · exact .inr h
theorem canonFrom_look {ps : List Pl} (h : Asc ps) (es : List Pl) (b : Int) (hb : ∀ t, 0 ≤ look ps t ∧ look ps t ≤ b) (he : ∀ e ∈ es, 0 ≤ e.2 ∧ e.2 ≤ 99) (hs : b + 99 * es.length ≤ 1000000000000) (t : ByteArray) :
    look (canonFrom ps es) t = look ps t + tot es t := by
  induction es generalizing ps b with
  | nil => rw [canonFrom_nil, tot_nil]; omega
  | cons e es ih =>
    have h1 := he e (by simp)
    have h2 := hb e.1
    simp only [List.length_cons] at hs
    have hw : IntKind.i64.wrap (look ps e.1 + e.2) = look ps e.1 + e.2 := IntWalk.i64_in _ (by omega)
    have hp := put_look (t := e.1) (m := e.2) h
    rw [canonFrom_cons, ih (put_asc h) (b + 99) (fun u => ?_) (fun x hx => he x (List.mem_cons_of_mem _ hx)) (by omega), hp t hw, tot_cons]
    · by_cases e' : t = e.1
      · rw [if_pos e', if_pos e'.symm]; omega
      · rw [if_neg e', if_neg (fun x => e' x.symm)]; omega
    · rw [hp u hw]
      have := hb u
      by_cases e' : u = e.1
      · rw [if_pos e']; omega
      · rw [if_neg e']; omega
/-- Ballots that may be added without a loss. -/
def Small (es : List Pl) : Prop := (∀ e ∈ es, 0 ≤ e.2 ∧ e.2 ≤ 99) ∧ es.length ≤ 1000000000
theorem canon_asc (es : List Pl) : Asc (canon es) := canonFrom_asc (by simp [Asc]) es
theorem canon_texts (es : List Pl) (t : ByteArray) : t ∈ (canon es).map (·.1) ↔ t ∈ es.map (·.1) := by
  unfold canon; rw [canonFrom_texts]; simp
theorem canon_look {es : List Pl} (h : Small es) (t : ByteArray) : look (canon es) t = tot es t := by
  unfold canon
  rw [canonFrom_look (by simp [Asc]) es 0 (fun t => by simp [look]) h.1 (by have := h.2; omega)]
  simp [look]
theorem canon_unique {es L : List Pl} (h : Small es) (ha : Asc L) (ht : ∀ t, t ∈ L.map (·.1) ↔ t ∈ es.map (·.1)) (hl : ∀ p ∈ L, p.2 = tot es p.1) : L = canon es := by
  refine asc_ext ha (canon_asc es) (fun t => by rw [ht, canon_texts]) (fun t => ?_)
  rw [canon_look h]
  by_cases hm : t ∈ L.map (·.1)
  · obtain ⟨p, hp, rfl⟩ := List.mem_map.1 hm
    rw [look_mem ha hp, hl p hp]
  · rw [look_none hm]
    rw [ht] at hm
    unfold tot
    rw [List.filter_eq_nil_iff.2 (fun e he => by simp; rintro rfl; exact hm (List.mem_map.2 ⟨e, he, rfl⟩))]
    rfl
end Go.Proofs.YtboobimpoddacaaGreatDoor

namespace Go.Proofs.YtboobimpoddacaaGreatDoor
open Go.RowKit
set_option linter.unusedVariables false

/-! ### elements of several cells -/
/-- The cells of elements. -/
def cellsOf {α : Type} (f : α → List Value) (xs : List α) : List Value := xs.flatMap f
section
variable {α : Type} {f : α → List Value} {size : Nat}
theorem cellsOf_nil : cellsOf f [] = [] := rfl
theorem cellsOf_cons (x : α) (xs : List α) : cellsOf f (x :: xs) = f x ++ cellsOf f xs := by simp [cellsOf]
theorem cellsOf_append (a b : List α) : cellsOf f (a ++ b) = cellsOf f a ++ cellsOf f b := by simp [cellsOf]
theorem cellsOf_one (x : α) : cellsOf f [x] = f x := by simp [cellsOf]
theorem cellsOf_len (hf : ∀ x, (f x).length = size) (xs : List α) : (cellsOf f xs).length = xs.length * size := by
  induction xs with
  | nil => simp [cellsOf]
  | cons x xs ih => rw [cellsOf_cons, List.length_append, hf, ih, List.length_cons, Nat.succ_mul]; omega
theorem cellsOf_at (hf : ∀ x, (f x).length = size) {xs : List α} {k j : Nat} {x : α} (h : xs[k]? = some x) (hj : j < size) : (cellsOf f xs)[k * size + j]? = (f x)[j]? := by
  induction xs generalizing k with
  | nil => simp at h
  | cons y xs ih =>
    rw [cellsOf_cons]
    cases k with
    | zero =>
      simp at h
      subst h
      rw [Nat.zero_mul, Nat.zero_add, List.getElem?_append_left (by rw [hf]; exact hj)]
    | succ k =>
      have h : xs[k]? = some x := by simpa using h
      rw [List.getElem?_append_right (by rw [hf, Nat.succ_mul]; omega), hf, show (k + 1) * size + j - size = k * size + j from by rw [Nat.succ_mul]; omega]
      exact ih h
theorem cellsOf_take (hf : ∀ x, (f x).length = size) (xs : List α) (k : Nat) : (cellsOf f xs).take (k * size) = cellsOf f (xs.take k) := by
  induction xs generalizing k with
  | nil => simp [cellsOf]
  | cons x xs ih =>
    cases k with
    | zero => simp [cellsOf]
    | succ k =>
      rw [cellsOf_cons, List.take_succ_cons, cellsOf_cons, List.take_append, hf, List.take_of_length_le (by rw [hf, Nat.succ_mul]; omega), show (k + 1) * size - size = k * size from by rw [Nat.succ_mul]; omega, ih]
theorem cellsOf_drop (hf : ∀ x, (f x).length = size) (xs : List α) (k : Nat) : (cellsOf f xs).drop (k * size) = cellsOf f (xs.drop k) := by
  induction xs generalizing k with
  | nil => simp [cellsOf]
  | cons x xs ih =>
    cases k with
    | zero => simp
    | succ k =>
      rw [cellsOf_cons, List.drop_succ_cons, List.drop_append, hf, List.drop_of_length_le (by rw [hf, Nat.succ_mul]; omega), show (k + 1) * size - size = k * size from by rw [Nat.succ_mul]; omega, ih, List.nil_append]
end

/-! ### piles -/
def plCells (p : Pl) : List Value := [.string p.1, .int .i64 p.2]
theorem plCells_len (p : Pl) : (plCells p).length = 2 := rfl
def Piles (w : World) (lo : Nat) (A : Option Addr) (n cap : Nat) (ps : List Pl) : Prop := Sl w lo 2 A n cap (cellsOf plCells ps)
section
variable {w w' : World} {lo lo' n cap k : Nat} {A : Option Addr} {ps : List Pl}
theorem Piles.len (h : Piles w lo A n cap ps) : ps.length = n := by
  have := h.2.2.1
  rw [cellsOf_len plCells_len] at this
  omega
theorem Piles.at_ (h : Piles w lo A n cap ps) (hk : k < n) : ∃ b off p, A = some ⟨b, off, none⟩ ∧ lo ≤ b ∧ b < w.heap.size ∧ Hid (ps[k]? = some p) ∧ w.cell? ⟨b, off + k * 2, none⟩ = some (.string p.1) ∧ w.cell? ⟨b, off + k * 2 + 1, none⟩ = some (.int .i64 p.2) := by
  obtain ⟨b, off, rfl, hl, hb, hc⟩ := h.2.2.2 (by omega)
  have hkl : k < ps.length := by rw [h.len]; exact hk
  have hp : ps[k]? = some ps[k] := List.getElem?_eq_getElem hkl
  refine ⟨b, off, ps[k], rfl, hl, hb, Lib.hid hp, ?_, ?_⟩
  · exact hc (k * 2) _ (by have := cellsOf_at plCells_len hp (j := 0) (by omega); rw [Nat.add_zero] at this; rw [this]; rfl)
  · rw [Nat.add_assoc]
    exact hc (k * 2 + 1) _ (by rw [cellsOf_at plCells_len hp (j := 1) (by omega)]; rfl)
theorem Piles.take (h : Piles w lo A n cap ps) (hk : k ≤ n) : Piles w lo A k cap (ps.take k) := by
  refine ⟨Nat.le_trans hk h.1, h.2.1, ?_⟩
  rw [← cellsOf_take plCells_len]
  exact h.2.2.take hk
theorem Piles.drop (h : Piles w lo A n cap ps) (hk : k ≤ n) : Piles w lo (if cap = k then A else A.map (·.add (k * 2))) (n - k) (cap - k) (ps.drop k) := by
  have := h.1
  have := h.2.1
  refine ⟨by omega, by omega, ?_⟩
  rw [← cellsOf_drop plCells_len]
  exact h.2.2.cut hk h.1
theorem Piles.keep0 (h : Piles w lo A n cap ps) (hg : w.grownBy w' none) : Piles w' lo A n cap ps := Sl.keep0 h hg
theorem Piles.mono (h : Piles w lo A n cap ps) (hl : lo' ≤ lo) : Piles w lo' A n cap ps := Sl.mono h hl
theorem Piles.nil (w : World) (lo : Nat) (A : Option Addr) (cap : Nat) (hc : cap ≤ maxLen) : Piles w lo A 0 cap [] := ⟨Nat.zero_le _, hc, Rd.nil _ _ _ _⟩
end

theorem zip_take {α β : Type} (a : List α) (b : List β) (k : Nat) : (a.zip b).take k = (a.take k).zip (b.take k) := by
  induction a generalizing b k with
  | nil => simp
  | cons x a ih => cases b <;> cases k <;> simp [ih]
theorem zip_drop {α β : Type} (a : List α) (b : List β) (k : Nat) : (a.zip b).drop k = (a.drop k).zip (b.drop k) := by
  induction a generalizing b k with
  | nil => simp
  | cons x a ih => cases b <;> cases k <;> simp [ih]
/-! ### structs with piles: their own cells, then a slice of piles -/
/-- Records: f's own cells stand ahead of the slice of piles. -/
structure Rec (α : Type) where
  own : Nat
  fields : α → List Value
  piles : α → List Pl
  flen : ∀ x, (fields x).length = own
/-- Where the piles of a record lie: address and capacity. -/
abbrev Hd := Option Addr × Nat
def Rec.cells {α : Type} (R : Rec α) (x : α × Hd) : List Value := R.fields x.1 ++ [.slice x.2.1 (R.piles x.1).length x.2.2]
theorem Rec.cells_len {α : Type} (R : Rec α) (x : α × Hd) : (R.cells x).length = R.own + 1 := by simp [Rec.cells, R.flen]
/-- A slice of records that reads as a list; lo: a bound below all its blocks. -/
def Recs {α : Type} (R : Rec α) (w : World) (lo : Nat) (A : Option Addr) (n cap : Nat) (xs : List α) : Prop :=
  ∃ hs : List Hd, hs.length = xs.length ∧ Sl w lo (R.own + 1) A n cap (cellsOf R.cells (xs.zip hs)) ∧
    ∀ (k : Nat) (x : α) (h : Hd), xs[k]? = some x → hs[k]? = some h → Piles w lo h.1 (R.piles x).length h.2 (R.piles x)
section
variable {α : Type} {R : Rec α} {w w' : World} {lo lo' n cap k : Nat} {A : Option Addr} {xs : List α}
theorem Recs.len (h : Recs R w lo A n cap xs) : xs.length = n := by
  obtain ⟨hs, hl, h1, _⟩ := h
  have := h1.2.2.1
  rw [cellsOf_len R.cells_len, List.length_zip, hl, Nat.min_self] at this
  exact Nat.eq_of_mul_eq_mul_right (by omega) this
theorem Recs.le (h : Recs R w lo A n cap xs) : n ≤ cap := by obtain ⟨_, _, h1, _⟩ := h; exact h1.1
theorem Recs.max (h : Recs R w lo A n cap xs) : cap ≤ 9223372036854775807 := by obtain ⟨_, _, h1, _⟩ := h; exact Sl.max h1
theorem Recs.keep0 (h : Recs R w lo A n cap xs) (hg : w.grownBy w' none) : Recs R w' lo A n cap xs := by
  obtain ⟨hs, hl, h1, h2⟩ := h
  exact ⟨hs, hl, h1.keep0 hg, fun k x y hx hy => (h2 k x y hx hy).keep0 hg⟩
theorem Recs.mono (h : Recs R w lo A n cap xs) (hl' : lo' ≤ lo) : Recs R w lo' A n cap xs := by
  obtain ⟨hs, hl, h1, h2⟩ := h
  exact ⟨hs, hl, h1.mono hl', fun k x y hx hy => (h2 k x y hx hy).mono hl'⟩
theorem Recs.below {B : Nat} (h : Recs R w lo A n cap xs) (hb : Below B w w') (hB : w.heap.size ≤ B) : Recs R w' lo A n cap xs :=
  h.keep0 ⟨hb.os, hb.tape, hb.output, hb.size, fun k hk _ => hb.block k (by omega)⟩
theorem Recs.at_ (h : Recs R w lo A n cap xs) (hk : k < n) : ∃ b off x A' c', A = some ⟨b, off, none⟩ ∧ Hid (xs[k]? = some x) ∧ Piles w lo A' (R.piles x).length c' (R.piles x) ∧
    (∀ j u, (R.fields x)[j]? = some u → w.cell? ⟨b, off + k * (R.own + 1) + j, none⟩ = some u) ∧ w.cell? ⟨b, off + k * (R.own + 1) + R.own, none⟩ = some (.slice A' (R.piles x).length c') := by
  have hxl := h.len
  obtain ⟨hs, hl, h1, h2⟩ := h
  obtain ⟨b, off, rfl, hlo, hb, hc⟩ := h1.2.2.2 (by omega)
  have hx : xs[k]? = some xs[k] := List.getElem?_eq_getElem (by omega)
  have hh : hs[k]? = some hs[k] := List.getElem?_eq_getElem (by omega)
  have hz : (xs.zip hs)[k]? = some (xs[k], hs[k]) := by rw [List.getElem?_zip_eq_some]; exact ⟨hx, hh⟩
  refine ⟨b, off, xs[k], (hs[k]).1, (hs[k]).2, rfl, Lib.hid hx, h2 k _ _ hx hh, fun j u hu => ?_, ?_⟩
  · have hj : j < R.own := by rw [← R.flen xs[k]]; exact (List.getElem?_eq_some_iff.1 hu).1
    rw [Nat.add_assoc]
    refine hc _ u ?_
    rw [cellsOf_at R.cells_len hz (by omega), Rec.cells, List.getElem?_append_left (by rw [R.flen]; exact hj)]
    exact hu
  · rw [Nat.add_assoc]
    refine hc _ _ ?_
    rw [cellsOf_at R.cells_len hz (by omega), Rec.cells, List.getElem?_append_right (by rw [R.flen]; exact Nat.le_refl _), R.flen]
    simp
theorem Recs.nil (R : Rec α) (w : World) (lo : Nat) (A : Option Addr) (c : Nat) (hc : c ≤ maxLen) : Recs R w lo A 0 c [] := ⟨[], rfl, ⟨Nat.zero_le _, hc, Rd.nil _ _ _ _⟩, by simp⟩
theorem Recs.take (h : Recs R w lo A n cap xs) (hk : k ≤ n) : Recs R w lo A k cap (xs.take k) := by
  have hxl := h.len
  obtain ⟨hs, hl, h1, h2⟩ := h
  refine ⟨hs.take k, by simp [hl], ⟨Nat.le_trans hk h1.1, h1.2.1, ?_⟩, fun j x y hx hy => ?_⟩
  · have := h1.2.2.take hk
    rw [cellsOf_take R.cells_len, zip_take] at this
    exact this
  · rw [List.getElem?_take] at hx hy
    split at hx
    · rename_i hj
      rw [if_pos hj] at hy
      exact h2 j x y hx hy
    · cases hx
theorem Recs.drop (h : Recs R w lo A n cap xs) (hk : k ≤ n) : Recs R w lo (if cap = k then A else A.map (·.add (k * (R.own + 1)))) (n - k) (cap - k) (xs.drop k) := by
  have hxl := h.len
  obtain ⟨hs, hl, h1, h2⟩ := h
  have h11 := h1.1
  have h12 := h1.2.1
  refine ⟨hs.drop k, by simp [hl], ⟨by omega, by omega, ?_⟩, fun j x y hx hy => ?_⟩
  · have := h1.2.2.cut hk h1.1
    rw [cellsOf_drop R.cells_len, zip_drop] at this
    exact this
  · rw [List.getElem?_drop] at hx hy
    exact h2 (k + j) x y hx hy
end

/-- All texts of the piles of records are within Go's bounds. -/
def RecsWf0 {α : Type} (R : Rec α) (xs : List α) : Prop := ∀ x ∈ xs, ∀ p ∈ R.piles x, p.1.size ≤ maxLen
/-- A batch: its number, the one in whose place it stands, its piles. -/
abbrev Bt := Int × Int × List Pl
def btRec : Rec Bt := ⟨2, fun b => [.int .i64 b.1, .int .i64 b.2.1], fun b => b.2.2, fun _ => rfl⟩
abbrev Bats (w : World) (lo : Nat) (A : Option Addr) (n cap : Nat) (bs : List Bt) : Prop := Recs btRec w lo A n cap bs
theorem Bats.at_ {w : World} {lo n cap k : Nat} {A : Option Addr} {bs : List Bt} (h : Bats w lo A n cap bs) (hk : k < n) : ∃ b off id over ps A' c', A = some ⟨b, off, none⟩ ∧ Hid (bs[k]? = some (id, over, ps)) ∧ Piles w lo A' ps.length c' ps ∧
    w.cell? ⟨b, off + k * 3, none⟩ = some (.int .i64 id) ∧ w.cell? ⟨b, off + k * 3 + 1, none⟩ = some (.int .i64 over) ∧ w.cell? ⟨b, off + k * 3 + 2, none⟩ = some (.slice A' ps.length c') := by
  obtain ⟨b, off, ⟨id, over, ps⟩, A', c', e, hx, hp, hf, hs⟩ := Recs.at_ h hk
  exact ⟨b, off, id, over, ps, A', c', e, hx, hp, by have := hf 0 _ rfl; rwa [Nat.add_zero] at this, hf 1 _ rfl, hs⟩
/-- A precinct: its number, its piles. -/
abbrev Pc := Int × List Pl
def pcRec : Rec Pc := ⟨1, fun b => [.int .i64 b.1], fun b => b.2, fun _ => rfl⟩
abbrev Pcts (w : World) (lo : Nat) (A : Option Addr) (n cap : Nat) (bs : List Pc) : Prop := Recs pcRec w lo A n cap bs
theorem Pcts.at_ {w : World} {lo n cap k : Nat} {A : Option Addr} {bs : List Pc} (h : Pcts w lo A n cap bs) (hk : k < n) : ∃ b off id ps A' c', A = some ⟨b, off, none⟩ ∧ Hid (bs[k]? = some (id, ps)) ∧ Piles w lo A' ps.length c' ps ∧
    w.cell? ⟨b, off + k * 2, none⟩ = some (.int .i64 id) ∧ w.cell? ⟨b, off + k * 2 + 1, none⟩ = some (.slice A' ps.length c') := by
  obtain ⟨b, off, ⟨id, ps⟩, A', c', e, hx, hp, hf, hs⟩ := Recs.at_ h hk
  exact ⟨b, off, id, ps, A', c', e, hx, hp, by have := hf 0 _ rfl; rwa [Nat.add_zero] at this, hs⟩
end Go.Proofs.YtboobimpoddacaaGreatDoor

namespace Go.Proofs.YtboobimpoddacaaGreatDoor
open Go.RowKit Go.Maps
set_option linter.unusedVariables false

def kS (t : ByteArray) : Lit := .string t.data.toList
theorem kS_inj {t u : ByteArray} (h : kS t = kS u) : t = u := by
  injection h with h
  exact ByteArray.ext (Array.toList_inj.1 h)
theorem kS_key (t : ByteArray) : WideAt.IsKeyLit (kS t) := trivial
/-- D is a map whose texts are those of ts; f tells what stands at each. -/
structure MapOf (D : DataW Unit) (ts : ByteArray → Prop) (f : ByteArray → Int) : Prop where
  tidy : Tidy D
  keys : ∀ kv, D = .map kv → ∀ p ∈ kv, ∃ t, p.1 = kS t ∧ ts t
  all : ∀ t, ts t → has D (kS t) = true
  val : ∀ t, D.atKey (kS t) (.lit (.int .i64 0)) = .lit (.int .i64 (f t))
theorem MapOf.start : MapOf (.map []) (fun _ => False) (fun _ => 0) :=
  ⟨tidy_empty, fun kv e p hp => (by injection e with e; subst e; cases hp), fun t h => h.elim, fun t => rfl⟩
theorem MapOf.congr {D : DataW Unit} {ts ts' : ByteArray → Prop} {f f' : ByteArray → Int} (h : MapOf D ts f) (ht : ∀ t, ts t ↔ ts' t) (hf : ∀ t, f t = f' t) : MapOf D ts' f' :=
  ⟨h.tidy, fun kv e p hp => by obtain ⟨t, e1, h1⟩ := h.keys kv e p hp; exact ⟨t, e1, (ht t).1 h1⟩, fun t h1 => h.all t ((ht t).2 h1), fun t => by rw [h.val t, hf t]⟩
theorem MapOf.put {D : DataW Unit} {ts : ByteArray → Prop} {f : ByteArray → Int} (h : MapOf D ts f) (t : ByteArray) (n : Int) : MapOf (D.put (kS t) (.lit (.int .i64 n))) (fun u => u = t ∨ ts u) (fun u => if u = t then n else f u) := by
  obtain ⟨kv, rfl, hp⟩ := h.tidy
  refine ⟨h.tidy.put (kS_key t) _, fun kv' e p hm => ?_, fun u hu => ?_, fun u => ?_⟩
  · injection e with e
    subst e
    rw [(WideShapes.insert_perm _ _).mem_iff] at hm
    rcases List.mem_cons.1 hm with rfl | hm
    · exact ⟨t, rfl, .inl rfl⟩
    · obtain ⟨u, e1, h1⟩ := h.keys kv rfl p ((List.mem_filter.1 hm).1)
      exact ⟨u, e1, .inr h1⟩
  · by_cases hut : u = t
    · subst hut
      exact has_put_same ⟨kv, rfl⟩ (kS_key u) _
    · rw [has_put_other (fun e => hut (kS_inj e))]
      rcases hu with hu | hu
      · exact absurd hu hut
      · exact h.all u hu
  · by_cases hut : u = t
    · subst hut
      rw [if_pos rfl]
      exact atKey_put_same ⟨kv, rfl⟩ (kS_key u) _ _
    · rw [if_neg hut, atKey_put_other (fun e => hut (kS_inj e))]
      exact h.val u
/-- The texts of a map in order. -/
def inOrder (ss : List (List UInt8)) : List ByteArray := (ss.mergeSort (fun x y => decide (x ≤ y))).map fun l => ⟨l.toArray⟩
theorem inOrder_len (ss : List (List UInt8)) : (inOrder ss).length = ss.length := by simp [inOrder]
theorem toList_mk (l : List UInt8) : (⟨l.toArray⟩ : ByteArray).toList = l := by rw [ByteArray.toList_eq]
theorem MapOf.order {D : DataW Unit} {ts : ByteArray → Prop} {f : ByteArray → Int} (h : MapOf D ts f) {ss : List (List UInt8)} (hs : ss.Perm (Go.strKeys D)) :
    (inOrder ss).Pairwise (fun a b => sLt a b = true) ∧ ∀ t, t ∈ inOrder ss ↔ ts t := by
  obtain ⟨kv, rfl, hp⟩ := h.tidy
  have hk := h.keys kv rfl
  have hmem : ∀ l, l ∈ Go.strKeys (DataW.map kv) ↔ ∃ t : ByteArray, ts t ∧ l = t.data.toList := by
    intro l
    show l ∈ kv.map (fun p => Go.strOf p.1) ↔ _
    rw [List.mem_map]
    constructor
    · rintro ⟨p, hp, rfl⟩
      obtain ⟨t, e, ht⟩ := hk p hp
      exact ⟨t, ht, by rw [e]; rfl⟩
    · rintro ⟨t, ht, rfl⟩
      have := h.all t ht
      rw [has_eq, List.any_eq_true] at this
      obtain ⟨p, hp, hpe⟩ := this
      exact ⟨p, hp, by rw [WideAt.sameKey_eq hpe]; rfl⟩
  have hnd : (Go.strKeys (DataW.map kv)).Nodup := by
    show (kv.map (fun p => Go.strOf p.1)).Nodup
    unfold List.Nodup
    rw [List.pairwise_map]
    refine hp.imp_of_mem (fun {a b} ha hb hne e => hne ?_)
    obtain ⟨t, e1, _⟩ := hk a ha
    obtain ⟨u, e2, _⟩ := hk b hb
    rw [e1, e2] at e ⊢
    exact congrArg Lit.string e
  have hperm : (ss.mergeSort (fun x y => decide (x ≤ y))).Perm (Go.strKeys (DataW.map kv)) := (List.mergeSort_perm _ _).trans hs
  have hsorted : (ss.mergeSort (fun x y => decide (x ≤ y))).Pairwise (fun x y => x ≤ y) := by
    have := List.pairwise_mergeSort (le := fun (x y : List UInt8) => decide (x ≤ y)) (fun a b c h1 h2 => by simp at *; exact List.le_trans h1 h2) (fun a b => by simp; exact List.le_total a b) ss
    exact this.imp (fun h => by simpa using h)
  have hnd2 : (ss.mergeSort (fun x y => decide (x ≤ y))).Pairwise (fun x y => x ≠ y) := (hperm.nodup_iff.2 hnd)
  constructor
  · unfold inOrder
    rw [List.pairwise_map]
    refine (hsorted.and hnd2).imp (fun {x y} h => ?_)
    rw [sLt_iff, toList_mk, toList_mk]
    rcases Decidable.em (x < y) with h1 | h1
    · exact h1
    · exact absurd (List.le_antisymm h.1 (List.not_lt.1 h1)) h.2
  · intro t
    unfold inOrder
    rw [List.mem_map]
    constructor
    · rintro ⟨l, hl, rfl⟩
      obtain ⟨u, hu, rfl⟩ := (hmem l).1 (hperm.mem_iff.1 hl)
      have : (⟨u.data.toList.toArray⟩ : ByteArray) = u := by cases u; rfl
      rw [this]
      exact hu
    · intro ht
      exact ⟨t.data.toList, hperm.mem_iff.2 ((hmem _).2 ⟨t, ht, rfl⟩), by cases t; rfl⟩
/-- The texts in order, each with what stands at it: the piles that many piles come to. -/
theorem MapOf.canon {D : DataW Unit} {es : List Pl} (h : MapOf D (fun t => t ∈ es.map (·.1)) (tot es)) (hs : Small es) {ss : List (List UInt8)} (hp : ss.Perm (Go.strKeys D)) :
    (inOrder ss).map (fun t => (t, tot es t)) = canon es := by
  obtain ⟨h1, h2⟩ := h.order hp
  refine canon_unique hs ?_ (fun t => ?_) (fun p hp' => ?_)
  · unfold Asc
    rw [List.pairwise_map]
    exact h1
  · rw [List.map_map]
    show t ∈ (inOrder ss).map (fun t => t) ↔ _
    rw [List.map_id']
    exact h2 t
  · obtain ⟨t, _, rfl⟩ := List.mem_map.1 hp'
    rfl
end Go.Proofs.YtboobimpoddacaaGreatDoor

namespace Go.Proofs.YtboobimpoddacaaGreatDoor
open Go.RowKit
set_option linter.unusedVariables false

theorem Piles.none_zero {w : World} {lo n cap : Nat} {A : Option Addr} {ps : List Pl} (h : Piles w lo A n cap ps) (e : A = none) : n = 0 := by
  rcases Nat.eq_zero_or_pos n with h0 | h0
  · exact h0
  · obtain ⟨b, off, h1, _⟩ := h.2.2.2 h0
    rw [e] at h1
    cases h1
theorem Piles.addr {w : World} {lo n cap : Nat} {A : Option Addr} {ps : List Pl} {a : Addr} (h : Piles w lo A n cap ps) (e : A = some a) : ∀ j u, (cellsOf plCells ps)[j]? = some u → w.cell? (a.add j) = some u := by
  intro j u hu
  have hjl := (List.getElem?_eq_some_iff.1 hu).1
  have hl := h.2.2.1
  have h0 : 0 < n := by
    rcases Nat.eq_zero_or_pos n with h0 | h0
    · subst h0; omega
    · exact h0
  obtain ⟨b, off, h1, _, _, hc⟩ := h.2.2.2 h0
  rw [e] at h1
  injection h1 with h1
  subst h1
  have hadd : (⟨b, off, none⟩ : Addr).add j = ⟨b, off + j, none⟩ := by
    unfold Addr.add
    split
    · simp_all
    · rfl
  rw [hadd]
  exact hc j u hu
/-- Only blocks from lo on and below hi, and new ones, are written. -/
structure Span (lo hi : Nat) (w w' : World) : Prop where
  os : w'.os = w.os
  tape : w'.tape = w.tape
  output : w'.output = w.output
  size : w.heap.size ≤ w'.heap.size
  block : ∀ i, i < w.heap.size → i < lo ∨ hi ≤ i → w'.heap[i]? = w.heap[i]?
section
variable {lo hi : Nat} {w w' w'' : World}
theorem Span.refl (lo hi : Nat) (w : World) : Span lo hi w w := ⟨rfl, rfl, rfl, Nat.le_refl _, fun _ _ _ => rfl⟩
theorem Span.trans (h : Span lo hi w w') (k : Span lo hi w' w'') : Span lo hi w w'' :=
  ⟨k.os.trans h.os, k.tape.trans h.tape, k.output.trans h.output, Nat.le_trans h.size k.size, fun i hi hl => (k.block i (Nat.lt_of_lt_of_le hi h.size) hl).trans (h.block i hi hl)⟩
theorem Span.of_gb (h : w.grownBy w' none) (lo hi : Nat) : Span lo hi w w' := ⟨h.os, h.tape, h.output, h.size, fun i hi _ => h.block i hi (by simp)⟩
theorem Span.of_row {row : Option Nat} (h : w.grownBy w' row) (hr : ∀ g, row = some g → lo ≤ g ∧ g < hi) : Span lo hi w w' :=
  ⟨h.os, h.tape, h.output, h.size, fun i hi hl => h.block i hi (fun e => by have := hr i e.symm; omega)⟩
theorem Span.below (h : Span lo hi w w') (hl : lo ≤ w.heap.size) : Below lo w w' := ⟨h.os, h.tape, h.output, h.size, fun i hil => h.block i (by omega) (.inl hil)⟩
theorem Span.mono {lo' hi' : Nat} (h : Span lo hi w w') (h1 : lo' ≤ lo) (h2 : hi ≤ hi') : Span lo' hi' w w' := ⟨h.os, h.tape, h.output, h.size, fun i hi hl => h.block i hi (by omega)⟩
theorem Span.gbz (h : Span lo hi w w') (hl : hi ≤ lo) : w.grownBy w' none := ⟨h.os, h.tape, h.output, h.size, fun i hi _ => h.block i hi (by omega)⟩
theorem Rd.span {L size n : Nat} {A : Option Addr} {xs : List Value} (h : Rd w L size A n xs) (hs : Span lo hi w w') (hl : hi ≤ L) : Rd w' L size A n xs :=
  ⟨h.1, fun hn => by
    obtain ⟨b, off, e, h1, hb, hc⟩ := h.2 hn
    refine ⟨b, off, e, h1, Nat.lt_of_lt_of_le hb hs.size, fun j u hu => ?_⟩
    rw [World.cell?_of_block (a := ⟨b, off + j, none⟩) (hs.block b hb (.inr (by omega)))]
    exact hc j u hu⟩
theorem Sl.span {L size n cap : Nat} {A : Option Addr} {xs : List Value} (h : Sl w L size A n cap xs) (hs : Span lo hi w w') (hl : hi ≤ L) : Sl w' L size A n cap xs := ⟨h.1, h.2.1, h.2.2.span hs hl⟩
theorem Recs.span {α : Type} {R : Rec α} {L n cap : Nat} {A : Option Addr} {xs : List α} (h : Recs R w L A n cap xs) (hs : Span lo hi w w') (hl : hi ≤ L) : Recs R w' L A n cap xs := by
  obtain ⟨ds, e, h1, h2⟩ := h
  exact ⟨ds, e, h1.span hs hl, fun k x y hx hy => (h2 k x y hx hy).span hs hl⟩
end

theorem own_lo {w : World} {lo lo' e size n : Nat} {v : Value} {xs : List Value} (h : w.ownsRow lo e size v n xs) (hl : lo' ≤ lo) : w.ownsRow lo' e size v n xs := by
  obtain ⟨h1, h2⟩ := h
  refine ⟨h1, ?_⟩
  rcases h2 with h2 | ⟨g, cap, cur, e1, hg, h3⟩
  · exact .inl h2
  · exact .inr ⟨g, cap, cur, e1, Nat.le_trans hl hg, h3⟩
theorem own_far {w : World} {lo e size n : Nat} {v : Value} {xs : List Value} (h : w.ownsRow lo e size v n xs) {p : Addr} {u : Value} (hne : v.ownBlock ≠ some p.block) : (w.setCell p u).ownsRow lo e size v n xs :=
  h.kept (gb_setCell (gb_refl w (some p.block)) (.inl rfl) u) (.inr hne)
/-- Blocks that differ, where there are any. -/
def Apart (l : List (Option Nat)) : Prop := l.Pairwise fun a b => a = none ∨ a ≠ b
theorem apart_at {l : List (Option Nat)} (h : Apart l) {i j : Nat} {a b : Option Nat} (hi : l[i]? = some a) (hj : l[j]? = some b) (hij : i ≠ j) : a = none ∨ a ≠ b := by
  unfold Apart at h
  rw [List.pairwise_iff_getElem] at h
  obtain ⟨hi1, rfl⟩ := List.getElem?_eq_some_iff.1 hi
  obtain ⟨hj1, rfl⟩ := List.getElem?_eq_some_iff.1 hj
  rcases Nat.lt_or_gt_of_ne hij with hlt | hlt
  · exact h i j hi1 hj1 hlt
  · rcases h j i hj1 hi1 hlt with h1 | h1
    · cases ha : l[i] with
      | none => exact .inl rfl
      | some g => rw [h1]; exact .inr (by simp)
    · exact .inr fun e => h1 e.symm
theorem apart_push {l : List (Option Nat)} (h : Apart l) {b : Option Nat} (hb : ∀ a ∈ l, a = none ∨ a ≠ b) : Apart (l ++ [b]) := by
  unfold Apart at *
  rw [List.pairwise_append]
  exact ⟨h, by simp, fun a ha c hc => by rw [List.mem_singleton.1 hc]; exact hb a ha⟩

def hdBlk (h : Hd) : Option Nat := (Value.slice h.1 0 h.2).ownBlock
theorem ownBlock_any (A : Option Addr) (n m c d : Nat) : (Value.slice A n c).ownBlock = (Value.slice A m d).ownBlock := by cases A <;> rfl
/-- Records of the call's own: their list at A, their piles at hs; all blocks lie from lo on, below hi, apart. -/
structure OwnRecs {α : Type} (R : Rec α) (pt t : TypeId) (w : World) (lo hi : Nat) (A : Option Addr) (n cap : Nat) (xs : List α) (hs : List Hd) : Prop where
  len : hs.length = xs.length
  row : w.ownsRow lo t (R.own + 1) (.slice A n cap) n (cellsOf R.cells (xs.zip hs))
  piles : ∀ (k : Nat) (x : α) (h : Hd), xs[k]? = some x → hs[k]? = some h → w.ownsRow lo pt 2 (.slice h.1 (R.piles x).length h.2) (R.piles x).length (cellsOf plCells (R.piles x))
  apart : Apart ((Value.slice A n cap).ownBlock :: hs.map hdBlk)
  bnd : ∀ g, some g ∈ (Value.slice A n cap).ownBlock :: hs.map hdBlk → g < hi
section
variable {α : Type} {R : Rec α} {pt t : TypeId} {w w' : World} {lo hi n cap k : Nat} {A : Option Addr} {xs : List α} {hs : List Hd}
theorem OwnRecs.xlen (h : OwnRecs R pt t w lo hi A n cap xs hs) : xs.length = n := by
  have := h.row.1
  rw [cellsOf_len R.cells_len, List.length_zip, h.len, Nat.min_self] at this
  exact Nat.eq_of_mul_eq_mul_right (by omega) this
theorem OwnRecs.recs (h : OwnRecs R pt t w lo hi A n cap xs hs) : Recs R w lo A n cap xs :=
  ⟨hs, h.len, Sl.own h.row, fun k x y hx hy => Sl.own (h.piles k x y hx hy)⟩
theorem OwnRecs.keep (h : OwnRecs R pt t w lo hi A n cap xs hs) (hg : w.grownBy w' none) : OwnRecs R pt t w' lo hi A n cap xs hs :=
  ⟨h.len, own_below h.row hg, fun k x y hx hy => own_below (h.piles k x y hx hy) hg, h.apart, h.bnd⟩
theorem own_span {e : TypeId} {size m : Nat} {v : Value} {us : List Value} {L H : Nat} (h : w.ownsRow L e size v m us) (hs : Span lo hi w w') (hl : hi ≤ L ∨ ∀ g, v.ownBlock = some g → g < lo) : w'.ownsRow L e size v m us := by
  obtain ⟨h1, h2⟩ := h
  refine ⟨h1, ?_⟩
  rcases h2 with h2 | ⟨g, cap, cur, rfl, hg, hh, h3⟩
  · exact .inl h2
  · refine .inr ⟨g, cap, cur, rfl, hg, ?_, h3⟩
    rw [hs.block g (Blk.lt hh) (by rcases hl with hl | hl; exact .inr (by omega); exact .inl (hl g rfl))]
    exact hh
theorem OwnRecs.span {L H : Nat} (h : OwnRecs R pt t w L H A n cap xs hs) (hsp : Span lo hi w w') (hl : hi ≤ L) : OwnRecs R pt t w' L H A n cap xs hs :=
  ⟨h.len, own_span (H := H) h.row hsp (.inl hl), fun k x y hx hy => own_span (H := H) (h.piles k x y hx hy) hsp (.inl hl), h.apart, h.bnd⟩

theorem cellsOf_set {β : Type} {f : β → List Value} {size : Nat} (hf : ∀ x, (f x).length = size) {ys : List β} {k j : Nat} {y y' : β} {u : Value} (hk : ys[k]? = some y) (hj : j < size) (hy : f y' = (f y).set j u) :
    cellsOf f (ys.set k y') = (cellsOf f ys).set (k * size + j) u := by
  induction ys generalizing k with
  | nil => simp at hk
  | cons z ys ih =>
    cases k with
    | zero =>
      simp at hk
      subst hk
      rw [List.set_cons_zero, cellsOf_cons, cellsOf_cons, hy, Nat.zero_mul, Nat.zero_add, List.set_append_left _ _ (by rw [hf]; exact hj)]
    | succ k =>
      have hk : ys[k]? = some y := by simpa using hk
      rw [List.set_cons_succ, cellsOf_cons, cellsOf_cons, ih hk, List.set_append_right _ _ (by rw [hf, Nat.succ_mul]; omega), hf, show (k + 1) * size + j - size = k * size + j from by rw [Nat.succ_mul]; omega]
theorem cellsOf_keep {β : Type} {f : β → List Value} {ys : List β} {k : Nat} {y y' : β} (hk : ys[k]? = some y) (hy : f y' = f y) : cellsOf f (ys.set k y') = cellsOf f ys := by
  induction ys generalizing k with
  | nil => simp at hk
  | cons z ys ih =>
    cases k with
    | zero => simp at hk; subst hk; rw [List.set_cons_zero, cellsOf_cons, cellsOf_cons, hy]
    | succ k => rw [List.set_cons_succ, cellsOf_cons, cellsOf_cons, ih (by simpa using hk)]
theorem zip_set {β γ : Type} (a : List β) (b : List γ) (k : Nat) (x : β) (y : γ) (hy : b[k]? = some y) : (a.set k x).zip b = (a.zip b).set k (x, y) := by
  induction a generalizing b k with
  | nil => simp
  | cons z a ih =>
    cases b with
    | nil => simp at hy
    | cons c b =>
      cases k with
      | zero => simp at hy; subst hy; simp
      | succ k => simp [ih b k (by simpa using hy)]

theorem OwnRecs.cell (h : OwnRecs R pt t w lo hi A n cap xs hs) {g j : Nat} (hA : A = some ⟨g, 0, none⟩) {x : α} {d : Hd} (hx : xs[k]? = some x) (hd : hs[k]? = some d) (hj : j < R.own + 1) : w.cell? ⟨g, k * (R.own + 1) + j, none⟩ = (R.cells (x, d))[j]? := by
  subst hA
  have hkn : k < n := by rw [← h.xlen]; exact (List.getElem?_eq_some_iff.1 hx).1
  have hz : (xs.zip hs)[k]? = some (x, d) := by rw [List.getElem?_zip_eq_some]; exact ⟨hx, hd⟩
  rw [h.row.cellAt _ (by
    have : (k + 1) * (R.own + 1) ≤ n * (R.own + 1) := Nat.mul_le_mul_right _ hkn
    rw [Nat.succ_mul] at this
    omega)]
  exact cellsOf_at R.cells_len hz hj
/-- A store into a record's own cell. -/
theorem OwnRecs.setField (h : OwnRecs R pt t w lo hi A n cap xs hs) {g j : Nat} (hA : A = some ⟨g, 0, none⟩) {x x' : α} {u : Value} (hx : xs[k]? = some x) (hj : j < R.own) (hf : R.fields x' = (R.fields x).set j u) (hp : R.piles x' = R.piles x) :
    OwnRecs R pt t (w.setCell ⟨g, k * (R.own + 1) + j, none⟩ u) lo hi A n cap (xs.set k x') hs ∧ Span lo hi w (w.setCell ⟨g, k * (R.own + 1) + j, none⟩ u) := by
  subst hA
  obtain ⟨hst, hgs⟩ := h.row.stored (k * (R.own + 1) + j) u
  have hkx : k < xs.length := (List.getElem?_eq_some_iff.1 hx).1
  have hkh : k < hs.length := by rw [h.len]; exact hkx
  have hh : hs[k]? = some hs[k] := List.getElem?_eq_getElem hkh
  have hz : (xs.zip hs)[k]? = some (x, hs[k]) := by rw [List.getElem?_zip_eq_some]; exact ⟨hx, hh⟩
  have hg : g < hi := h.bnd g (by simp [Value.ownBlock])
  have hlo : lo ≤ g := (h.row.lt g rfl).1
  refine ⟨⟨by simp [h.len], ?_, fun i y d hy hd => ?_, h.apart, h.bnd⟩, Span.of_row hgs (fun b hb => by injection hb with hb; omega)⟩
  · rw [zip_set _ _ _ _ _ hh, cellsOf_set (j := j) (u := u) R.cells_len hz (by omega) (by
      show R.fields x' ++ _ = (R.fields x ++ _).set j u
      rw [List.set_append_left _ _ (by rw [R.flen]; exact hj), hf, hp])]
    exact hst
  · have hold : ∃ y0, xs[i]? = some y0 ∧ R.piles y = R.piles y0 := by
      by_cases hik : i = k
      · subst hik
        rw [List.getElem?_set_self hkx] at hy
        injection hy with hy
        subst hy
        exact ⟨x, hx, hp⟩
      · rw [List.getElem?_set_ne (fun e => hik e.symm)] at hy
        exact ⟨y, hy, rfl⟩
    obtain ⟨y0, hy0, e⟩ := hold
    rw [e]
    refine (h.piles i y0 d hy0 hd).kept hgs ?_
    have := apart_at h.apart (i := i + 1) (j := 0) (a := hdBlk d) (by simp [hd]) rfl (by omega)
    rwa [hdBlk, ownBlock_any d.1 0 (R.piles y0).length d.2 d.2] at this
/-- The piles of a record, written. -/
theorem OwnRecs.setPiles (h : OwnRecs R pt t w lo hi A n cap xs hs) {x x' : α} {d : Hd} (hx : xs[k]? = some x) (hd : hs[k]? = some d) (hf : R.fields x' = R.fields x) (hl : (R.piles x').length = (R.piles x).length)
    (hg : w.grownBy w' (Value.slice d.1 (R.piles x).length d.2).ownBlock) (hp : w'.ownsRow lo pt 2 (.slice d.1 (R.piles x).length d.2) (R.piles x).length (cellsOf plCells (R.piles x'))) :
    OwnRecs R pt t w' lo hi A n cap (xs.set k x') hs ∧ Span lo hi w w' := by
  have hkx : k < xs.length := (List.getElem?_eq_some_iff.1 hx).1
  have hz : (xs.zip hs)[k]? = some (x, d) := by rw [List.getElem?_zip_eq_some]; exact ⟨hx, hd⟩
  have hdb : (Value.slice d.1 (R.piles x).length d.2).ownBlock = hdBlk d := ownBlock_any _ _ _ _ _
  have hmem : hdBlk d ∈ (Value.slice A n cap).ownBlock :: hs.map hdBlk := List.mem_cons_of_mem _ (List.mem_map.2 ⟨d, List.mem_of_getElem? hd, rfl⟩)
  refine ⟨⟨by simp [h.len], ?_, fun i y e hy he => ?_, h.apart, h.bnd⟩, Span.of_row hg (fun b hb => ⟨((h.piles k x d hx hd).lt b hb).1, h.bnd b (by rw [hdb] at hb; rw [← hb]; exact hmem)⟩)⟩
  · rw [zip_set _ _ _ _ _ hd, cellsOf_keep hz (by show R.fields x' ++ _ = R.fields x ++ _; rw [hf, hl])]
    refine h.row.kept hg ?_
    rw [hdb]
    exact apart_at h.apart (i := 0) (j := k + 1) rfl (by simp [hd]) (by omega)
  · by_cases hik : i = k
    · subst hik
      rw [List.getElem?_set_self hkx] at hy
      injection hy with hy
      subst hy
      rw [hd] at he
      injection he with he
      subst he
      rw [hl]
      exact hp
    · rw [List.getElem?_set_ne (fun e => hik e.symm)] at hy
      refine (h.piles i y e hy he).kept hg ?_
      rw [hdb, ownBlock_any e.1 (R.piles y).length 0 e.2 e.2]
      exact apart_at h.apart (i := i + 1) (j := k + 1) (a := hdBlk e) (b := hdBlk d) (by simp [he]) (by simp [hd]) (by omega)
end
/-- The first k records are made. -/
structure MadeTo {α : Type} (R : Rec α) (pt t : TypeId) (w0 w : World) (B : Nat) (k n : Nat) (xs : List α) (cs : Array Value) (hs : List Hd) : Prop where
  len : hs.length = k
  blk : Blk w B t cs
  size : cs.size = n * (R.own + 1)
  pre : ∀ j, j < k * (R.own + 1) → cs[j]? = (cellsOf R.cells (xs.zip hs))[j]?
  piles : ∀ (i : Nat) (x : α) (h : Hd), xs[i]? = some x → hs[i]? = some h → w.ownsRow w0.heap.size pt 2 (.slice h.1 (R.piles x).length h.2) (R.piles x).length (cellsOf plCells (R.piles x))
  apart : Apart (some B :: hs.map hdBlk)
  bnd : ∀ g, some g ∈ some B :: hs.map hdBlk → w0.heap.size ≤ g ∧ g < w.heap.size
theorem MadeTo.start {α : Type} (R : Rec α) (pt t : TypeId) (w0 w : World) (n : Nat) (xs : List α) (cs : Array Value) (hB : Blk w w0.heap.size t cs) (hs : cs.size = n * (R.own + 1)) : MadeTo R pt t w0 w w0.heap.size 0 n xs cs [] :=
  ⟨rfl, hB, hs, fun j hj => absurd hj (by omega), fun i x h _ hh => by simp at hh, by simp [Apart], fun g hg => by
    have := hB.lt
    simp at hg
    omega⟩
theorem zip_push {α β : Type} {xs : List α} {hs : List β} {k : Nat} {x : α} (h : β) (hx : xs[k]? = some x) (hl : hs.length = k) : xs.zip (hs ++ [h]) = xs.zip hs ++ [(x, h)] := by
  induction xs generalizing hs k with
  | nil => simp at hx
  | cons y xs ih =>
    cases hs with
    | nil => simp at hl; subst hl; simp at hx; subst hx; simp
    | cons d hs =>
      cases k with
      | zero => simp at hl
      | succ k => simp [ih (by simpa using hx) (by simpa using hl)]
theorem zip_len {α β : Type} {xs : List α} {hs : List β} {k : Nat} (hl : hs.length = k) (hx : k ≤ xs.length) : (xs.zip hs).length = k := by rw [List.length_zip, hl]; omega
theorem MadeTo.step {α : Type} {R : Rec α} {pt t : TypeId} {w0 w w1 w2 : World} {B k n L : Nat} {xs : List α} {cs cs' : Array Value} {hs : List Hd} {x : α} {h : Hd} (hM : MadeTo R pt t w0 w B k n xs cs hs) (hx : xs[k]? = some x)
    (hg : w.grownBy w1 none) (ho : w1.ownsRow L pt 2 (.slice h.1 (R.piles x).length h.2) (R.piles x).length (cellsOf plCells (R.piles x))) (hL : ∀ g, hdBlk h = some g → w.heap.size ≤ g)
    (hb : Blk w2 B t cs') (hg2 : w1.grownBy w2 (some B)) (hs' : cs'.size = cs.size) (h1 : ∀ j, j < k * (R.own + 1) → cs'[j]? = cs[j]?) (h2 : ∀ j, j < R.own + 1 → cs'[k * (R.own + 1) + j]? = (R.cells (x, h))[j]?) :
    MadeTo R pt t w0 w2 B (k + 1) n xs cs' (hs ++ [h]) := by
  have hkx : k < xs.length := (List.getElem?_eq_some_iff.1 hx).1
  have hzl := zip_len (xs := xs) hM.len (Nat.le_of_lt hkx)
  have hBl := hM.bnd B (by simp)
  have hdb : (Value.slice h.1 (R.piles x).length h.2).ownBlock = hdBlk h := ownBlock_any _ _ _ _ _
  have hnew : ∀ g, hdBlk h = some g → w.heap.size ≤ g ∧ g < w1.heap.size := fun g e => ⟨hL g e, (ho.lt g (by rw [hdb]; exact e)).2⟩
  have hold : ∀ a ∈ some B :: hs.map hdBlk, a = none ∨ a ≠ hdBlk h := by
    intro a ha
    cases a with
    | none => exact .inl rfl
    | some g =>
      refine .inr fun e => ?_
      have := (hM.bnd g ha).2
      have := (hnew g e.symm).1
      omega
  refine ⟨by simp [hM.len], hb, by rw [hs']; exact hM.size, fun j hj => ?_, fun i y d hy hd => ?_, ?_, fun g hgm => ?_⟩
  · rw [zip_push h hx hM.len, cellsOf_append]
    have hcl : (cellsOf R.cells (xs.zip hs)).length = k * (R.own + 1) := by rw [cellsOf_len R.cells_len, hzl]
    by_cases hjk : j < k * (R.own + 1)
    · rw [List.getElem?_append_left (by rw [hcl]; exact hjk), h1 j hjk]
      exact hM.pre j hjk
    · rw [List.getElem?_append_right (by rw [hcl]; omega), hcl, cellsOf_one]
      have := h2 (j - k * (R.own + 1)) (by rw [Nat.succ_mul] at hj; omega)
      rwa [show k * (R.own + 1) + (j - k * (R.own + 1)) = j from by omega] at this
  · by_cases hi : i < k
    · rw [List.getElem?_append_left (by rw [hM.len]; exact hi)] at hd
      refine (own_below (hM.piles i y d hy hd) hg).kept hg2 ?_
      have := apart_at hM.apart (i := i + 1) (j := 0) (a := hdBlk d) (by simp [hd]) rfl (by omega)
      rwa [hdBlk, ownBlock_any d.1 0 (R.piles y).length d.2 d.2] at this
    · rw [List.getElem?_append_right (by rw [hM.len]; omega), hM.len] at hd
      have hik : i - k = 0 := by
        have := (List.getElem?_eq_some_iff.1 hd).1
        simpa using this
      rw [hik] at hd
      obtain rfl : i = k := by omega
      injection hd with hd
      subst hd
      rw [hx] at hy
      injection hy with hy
      subst hy
      obtain ⟨q1, q2⟩ := ho
      have ho' : w1.ownsRow w0.heap.size pt 2 (.slice h.1 (R.piles x).length h.2) (R.piles x).length (cellsOf plCells (R.piles x)) := by
        refine ⟨q1, ?_⟩
        rcases q2 with q2 | ⟨g, c, cur, e1, hg', q3⟩
        · exact .inl q2
        · refine .inr ⟨g, c, cur, e1, ?_, q3⟩
          have := hL g (by rw [← hdb, e1]; rfl)
          omega
      refine ho'.kept hg2 ?_
      rw [hdb]
      cases hh : hdBlk h with
      | none => exact .inl rfl
      | some g =>
        refine .inr fun e => ?_
        injection e with e
        have := (hnew g hh).1
        omega
  · rw [List.map_append, ← List.cons_append]
    exact apart_push hM.apart hold
  · rw [List.map_append, ← List.cons_append, List.mem_append] at hgm
    have hs1 := hg.size
    have hs2 := hg2.size
    rcases hgm with hgm | hgm
    · have := hM.bnd g hgm
      omega
    · simp at hgm
      have := hnew g hgm.symm
      omega
theorem MadeTo.done {α : Type} {R : Rec α} {pt t : TypeId} {w0 w : World} {B n : Nat} {xs : List α} {cs : Array Value} {hs : List Hd} (hM : MadeTo R pt t w0 w B n n xs cs hs) (hx : xs.length = n) (hB : w0.heap.size ≤ B) (hn : n ≤ 100000000) :
    OwnRecs R pt t w w0.heap.size w.heap.size (some ⟨B, 0, none⟩) n n xs hs := by
  have he : cs.toList = cellsOf R.cells (xs.zip hs) := by
    have hl : (cellsOf R.cells (xs.zip hs)).length = n * (R.own + 1) := by rw [cellsOf_len R.cells_len, zip_len hM.len (by omega)]
    apply List.ext_getElem?
    intro j
    by_cases hj : j < n * (R.own + 1)
    · rw [Array.getElem?_toList]
      exact hM.pre j hj
    · rw [List.getElem?_eq_none (by simp; rw [hM.size]; omega), List.getElem?_eq_none (by rw [hl]; omega)]
  have hown := own_of_blk (lo := w0.heap.size) (size := R.own + 1) (n := n) hM.blk hM.size hn hB
  rw [he] at hown
  exact ⟨by rw [hM.len, hx], hown, hM.piles, hM.apart, fun g hg => (hM.bnd g hg).2⟩
theorem MadeTo.stepBt {pt t : TypeId} {w0 w w1 : World} {B k n L N g : Nat} {bs : List Bt} {cs : Array Value} {hs : List Hd} {id over : Int} {ps : List Pl} (hM : MadeTo btRec pt t w0 w B k n bs cs hs) (hx : bs[k]? = some (id, over, ps)) (hk : k < n) (hN : ps.length = N)
    (hg : w.grownBy w1 none) (ho : w1.ownsRow L pt 2 (.slice (some ⟨g, 0, none⟩) N N) N (cellsOf plCells ps)) (hgl : w.heap.size ≤ g) :
    MadeTo btRec pt t w0 (((w1.setCell ⟨B, k * 3, none⟩ (.int .i64 id)).setCell ⟨B, k * 3 + 1, none⟩ (.int .i64 over)).setCell ⟨B, k * 3 + 2, none⟩ (.slice (some ⟨g, 0, none⟩) N N)) B (k + 1) n bs
      (((cs.setIfInBounds (k * 3) (.int .i64 id)).setIfInBounds (k * 3 + 1) (.int .i64 over)).setIfInBounds (k * 3 + 2) (.slice (some ⟨g, 0, none⟩) N N)) (hs ++ [(some ⟨g, 0, none⟩, N)]) := by
  subst hN
  have hb1 := hM.blk.grown hg (by simp)
  have hsz : cs.size = n * 3 := hM.size
  have hL : ∀ b, hdBlk (some ⟨g, 0, none⟩, ps.length) = some b → w.heap.size ≤ b := by
    intro b e
    have e : some g = some b := e
    injection e with e
    omega
  have hB2 := ((hb1.set_ (k * 3) (.int .i64 id)).set_ (k * 3 + 1) (.int .i64 over)).set_ (k * 3 + 2) (.slice (some ⟨g, 0, none⟩) ps.length ps.length)
  have hG2 : w1.grownBy (((w1.setCell ⟨B, k * 3, none⟩ (.int .i64 id)).setCell ⟨B, k * 3 + 1, none⟩ (.int .i64 over)).setCell ⟨B, k * 3 + 2, none⟩ (.slice (some ⟨g, 0, none⟩) ps.length ps.length)) (some B) := by
    refine gb_setCell ?_ (.inl rfl) _
    refine gb_setCell ?_ (.inl rfl) _
    exact gb_setCell (gb_refl _ _) (.inl rfl) _
  refine hM.step (x := (id, over, ps)) (h := (some ⟨g, 0, none⟩, ps.length)) hx hg ho hL hB2 hG2 (by simp only [Array.size_setIfInBounds]) (fun j hj => ?_) (fun j hj => ?_)
  · have hj : j < k * 3 := hj
    rw [Array.getElem?_setIfInBounds_ne (by omega), Array.getElem?_setIfInBounds_ne (by omega), Array.getElem?_setIfInBounds_ne (by omega)]
  · have hj : j < 3 := hj
    show (_ : Array Value)[k * 3 + j]? = [Value.int .i64 id, .int .i64 over, .slice (some ⟨g, 0, none⟩) ps.length ps.length][j]?
    rcases (by omega : j = 0 ∨ j = 1 ∨ j = 2) with rfl | rfl | rfl
    · rw [show k * 3 + 0 = k * 3 from rfl, Array.getElem?_setIfInBounds_ne (by omega), Array.getElem?_setIfInBounds_ne (by omega), Array.getElem?_setIfInBounds_self_of_lt (by rw [hsz]; omega)]; rfl
    · rw [Array.getElem?_setIfInBounds_ne (by omega), Array.getElem?_setIfInBounds_self_of_lt (by rw [Array.size_setIfInBounds, hsz]; omega)]; rfl
    · rw [Array.getElem?_setIfInBounds_self_of_lt (by rw [Array.size_setIfInBounds, Array.size_setIfInBounds, hsz]; omega)]; rfl
theorem MadeTo.stepPc {pt t : TypeId} {w0 w w1 : World} {B k n L N g : Nat} {bs : List Pc} {cs : Array Value} {hs : List Hd} {id : Int} {ps : List Pl} (hM : MadeTo pcRec pt t w0 w B k n bs cs hs) (hx : bs[k]? = some (id, ps)) (hk : k < n) (hN : ps.length = N)
    (hg : w.grownBy w1 none) (ho : w1.ownsRow L pt 2 (.slice (some ⟨g, 0, none⟩) N N) N (cellsOf plCells ps)) (hgl : w.heap.size ≤ g) :
    MadeTo pcRec pt t w0 ((w1.setCell ⟨B, k * 2, none⟩ (.int .i64 id)).setCell ⟨B, k * 2 + 1, none⟩ (.slice (some ⟨g, 0, none⟩) N N)) B (k + 1) n bs
      ((cs.setIfInBounds (k * 2) (.int .i64 id)).setIfInBounds (k * 2 + 1) (.slice (some ⟨g, 0, none⟩) N N)) (hs ++ [(some ⟨g, 0, none⟩, N)]) := by
  subst hN
  have hb1 := hM.blk.grown hg (by simp)
  have hsz : cs.size = n * 2 := hM.size
  have hL : ∀ b, hdBlk (some ⟨g, 0, none⟩, ps.length) = some b → w.heap.size ≤ b := by
    intro b e
    have e : some g = some b := e
    injection e with e
    omega
  have hB2 := (hb1.set_ (k * 2) (.int .i64 id)).set_ (k * 2 + 1) (.slice (some ⟨g, 0, none⟩) ps.length ps.length)
  have hG2 : w1.grownBy ((w1.setCell ⟨B, k * 2, none⟩ (.int .i64 id)).setCell ⟨B, k * 2 + 1, none⟩ (.slice (some ⟨g, 0, none⟩) ps.length ps.length)) (some B) := by
    refine gb_setCell ?_ (.inl rfl) _
    exact gb_setCell (gb_refl _ _) (.inl rfl) _
  refine hM.step (x := (id, ps)) (h := (some ⟨g, 0, none⟩, ps.length)) hx hg ho hL hB2 hG2 (by simp only [Array.size_setIfInBounds]) (fun j hj => ?_) (fun j hj => ?_)
  · have hj : j < k * 2 := hj
    rw [Array.getElem?_setIfInBounds_ne (by omega), Array.getElem?_setIfInBounds_ne (by omega)]
  · have hj : j < 2 := hj
    show (_ : Array Value)[k * 2 + j]? = [Value.int .i64 id, .slice (some ⟨g, 0, none⟩) ps.length ps.length][j]?
    rcases (by omega : j = 0 ∨ j = 1) with rfl | rfl
    · rw [show k * 2 + 0 = k * 2 from rfl, Array.getElem?_setIfInBounds_ne (by omega), Array.getElem?_setIfInBounds_self_of_lt (by rw [hsz]; omega)]; rfl
    · rw [Array.getElem?_setIfInBounds_self_of_lt (by rw [Array.size_setIfInBounds, hsz]; omega)]; rfl

/-- A list of the call's own whose records' piles lie anywhere from lo on, but not in the list's block. -/
structure ListRecs {α : Type} (R : Rec α) (t : TypeId) (w : World) (lo L : Nat) (A : Option Addr) (n cap : Nat) (xs : List α) (hs : List Hd) : Prop where
  len : hs.length = xs.length
  row : w.ownsRow L t (R.own + 1) (.slice A n cap) n (cellsOf R.cells (xs.zip hs))
  piles : ∀ (k : Nat) (x : α) (h : Hd), xs[k]? = some x → hs[k]? = some h → Piles w lo h.1 (R.piles x).length h.2 (R.piles x)
  apart : ∀ (k : Nat) (x : α) (h : Hd), xs[k]? = some x → hs[k]? = some h → 0 < (R.piles x).length → ∀ b, h.1 = some b → (Value.slice A n cap).ownBlock ≠ some b.block
section
variable {α : Type} {R : Rec α} {t : TypeId} {w w' : World} {lo L n cap : Nat} {A : Option Addr} {xs : List α} {hs : List Hd}
theorem ListRecs.nil (R : Rec α) (t : TypeId) (w : World) (lo L : Nat) : ListRecs R t w lo L none 0 0 [] [] := ⟨rfl, own_nil _ _ _ _, fun k x h hx => by simp at hx, fun k x h hx => by simp at hx⟩
theorem ListRecs.empty (R : Rec α) (t : TypeId) (w : World) (lo L : Nat) (hL : L ≤ w.heap.size) : ListRecs R t (w.alloc (.cells #[] t)) lo L (some ⟨w.heap.size, 0, none⟩) 0 0 [] [] := ⟨rfl, own_empty _ _ _ _ hL, fun k x h hx => by simp at hx, fun k x h hx => by simp at hx⟩
theorem ListRecs.keep (h : ListRecs R t w lo L A n cap xs hs) (hg : w.grownBy w' none) : ListRecs R t w' lo L A n cap xs hs :=
  ⟨h.len, own_below h.row hg, fun k x d hx hd => (h.piles k x d hx hd).keep0 hg, h.apart⟩
theorem ListRecs.xlen (h : ListRecs R t w lo L A n cap xs hs) : xs.length = n := by
  have := h.row.1
  rw [cellsOf_len R.cells_len, List.length_zip, h.len, Nat.min_self] at this
  exact Nat.eq_of_mul_eq_mul_right (by omega) this
theorem ListRecs.recs (h : ListRecs R t w lo L A n cap xs hs) (hl : lo ≤ L) : Recs R w lo A n cap xs := ⟨hs, h.len, (Sl.own h.row).mono hl, h.piles⟩
theorem snoc_at {β : Type} {l : List β} {x y : β} {k : Nat} (h : (l ++ [x])[k]? = some y) : (k < l.length ∧ l[k]? = some y) ∨ (k = l.length ∧ y = x) := by
  by_cases hk : k < l.length
  · rw [List.getElem?_append_left hk] at h
    exact .inl ⟨hk, h⟩
  · rw [List.getElem?_append_right (by omega)] at h
    have h0 : k - l.length = 0 := by
      have := (List.getElem?_eq_some_iff.1 h).1
      simpa using this
    rw [h0] at h
    injection h with h
    exact .inr ⟨by omega, h.symm⟩
/-- One more record: what an append leaves. -/
theorem ListRecs.push (h : ListRecs R t w lo L A n cap xs hs) {w' : World} {A' : Option Addr} {c' : Nat} {x : α} {d : Hd} (hown : w'.ownsRow L t (R.own + 1) (.slice A' (n + 1) c') (n + 1) (cellsOf R.cells (xs.zip hs) ++ R.cells (x, d)))
    (hg : w.grownBy w' (Value.slice A n cap).ownBlock) (hat : (Value.slice A' (n + 1) c').ownBlock = (Value.slice A n cap).ownBlock ∨ ∃ g, (Value.slice A' (n + 1) c').ownBlock = some g ∧ w.heap.size ≤ g)
    (hp : Piles w lo d.1 (R.piles x).length d.2 (R.piles x)) (hd : 0 < (R.piles x).length → ∀ b, d.1 = some b → (Value.slice A n cap).ownBlock ≠ some b.block) :
    ListRecs R t w' lo L A' (n + 1) c' (xs ++ [x]) (hs ++ [d]) := by
  have hold : ∀ (k : Nat) (y : α) (e : Hd), (xs ++ [x])[k]? = some y → (hs ++ [d])[k]? = some e → Piles w lo e.1 (R.piles y).length e.2 (R.piles y) ∧ (0 < (R.piles y).length → ∀ b, e.1 = some b → (Value.slice A n cap).ownBlock ≠ some b.block) := by
    intro k y e hy he
    rcases snoc_at hy with ⟨h1, h2⟩ | ⟨h1, h2⟩
    · rcases snoc_at he with ⟨h3, h4⟩ | ⟨h3, h4⟩
      · exact ⟨h.piles k y e h2 h4, h.apart k y e h2 h4⟩
      · rw [h.len] at h3; omega
    · rcases snoc_at he with ⟨h3, h4⟩ | ⟨h3, h4⟩
      · rw [h.len] at h3; omega
      · subst h2 h4
        exact ⟨hp, hd⟩
  refine ⟨by simp [h.len], ?_, fun k y e hy he => ?_, fun k y e hy he hn b hb => ?_⟩
  · rw [List.zip_append h.len.symm, cellsOf_append]
    simpa [cellsOf] using hown
  · obtain ⟨o1, o2⟩ := hold k y e hy he
    refine ⟨o1.1, o1.2.1, o1.2.2.1, fun hn => ?_⟩
    obtain ⟨b, off, e1, hl, hb, hc⟩ := o1.2.2.2 hn
    exact ⟨b, off, e1, hl, Nat.lt_of_lt_of_le hb hg.size, fun j u hu => gb_cell hg (hc j u hu) (fun e2 => o2 hn _ e1 e2.symm)⟩
  · obtain ⟨o1, o2⟩ := hold k y e hy he
    rcases hat with h1 | ⟨g, h1, h2⟩
    · rw [h1]; exact o2 hn b hb
    · rw [h1]
      obtain ⟨b', off, e1, _, hb', _⟩ := o1.2.2.2 hn
      rw [hb] at e1
      injection e1 with e1
      subst e1
      intro e2
      injection e2 with e2
      have : b' < w.heap.size := hb'
      have e2 : g = b' := e2
      omega
/-- Piles that lie below the list's block. -/
theorem apart_below {L' : Nat} {xs' : List Value} {v : Value} {d : Hd} {ps : List Pl} {w0 : World} (h : w.ownsRow L t (R.own + 1) v n xs') (hp : Piles w0 lo d.1 ps.length d.2 ps) (hL : w0.heap.size ≤ L) : 0 < ps.length → ∀ b, d.1 = some b → v.ownBlock ≠ some b.block := by
  intro hn b hb e
  obtain ⟨b', off, e1, _, hb', _⟩ := hp.2.2.2 hn
  rw [hb] at e1
  injection e1 with e1
  subst e1
  have h1 := (h.lt _ e).1
  have h2 : b' < w0.heap.size := hb'
  have h3 : L ≤ b' := h1
  omega
/-- Piles that lie above the list's block. -/
theorem apart_above {L' : Nat} {xs' : List Value} {v : Value} {d : Hd} {ps : List Pl} {w0 : World} (h : w.ownsRow L t (R.own + 1) v n xs') (hp : Piles w0 L' d.1 ps.length d.2 ps) (hL : w.heap.size ≤ L') : 0 < ps.length → ∀ b, d.1 = some b → v.ownBlock ≠ some b.block := by
  intro hn b hb e
  obtain ⟨b', off, e1, hl, _, _⟩ := hp.2.2.2 hn
  rw [hb] at e1
  injection e1 with e1
  subst e1
  have h1 := (h.lt _ e).2
  have h3 : b' < w.heap.size := h1
  omega
theorem Piles.keepR {w w' : World} {lo n cap R0 : Nat} {A : Option Addr} {ps : List Pl} (h : Piles w lo A n cap ps) (hg : w.grownBy w' (some R0)) (hR : R0 < lo) : Piles w' lo A n cap ps := Sl.keep h hg (fun k e => by injection e with e; omega)
theorem ListRecs.keepR {R0 : Nat} (h : ListRecs R t w lo L A n cap xs hs) (hg : w.grownBy w' (some R0)) (hR : R0 < lo) (hL : R0 < L) : ListRecs R t w' lo L A n cap xs hs :=
  ⟨h.len, own_kept h.row hg (fun k e => by injection e with e; subst e; exact .inl hL), fun k x d hx hd => (h.piles k x d hx hd).keepR hg hR, h.apart⟩
theorem ListRecs.cell (h : ListRecs R t w lo L A n cap xs hs) {g k j : Nat} (hA : A = some ⟨g, 0, none⟩) {x : α} {d : Hd} (hx : xs[k]? = some x) (hd : hs[k]? = some d) (hj : j < R.own + 1) : w.cell? ⟨g, k * (R.own + 1) + j, none⟩ = (R.cells (x, d))[j]? := by
  subst hA
  have hkn : k < n := by rw [← h.xlen]; exact (List.getElem?_eq_some_iff.1 hx).1
  have hz : (xs.zip hs)[k]? = some (x, d) := by rw [List.getElem?_zip_eq_some]; exact ⟨hx, hd⟩
  rw [h.row.cellAt _ (by
    have : (k + 1) * (R.own + 1) ≤ n * (R.own + 1) := Nat.mul_le_mul_right _ hkn
    rw [Nat.succ_mul] at this
    omega)]
  exact cellsOf_at R.cells_len hz hj
/-- A store into a record's own cell. -/
theorem ListRecs.setField (h : ListRecs R t w lo L A n cap xs hs) {g k j : Nat} (hA : A = some ⟨g, 0, none⟩) {x x' : α} {u : Value} (hx : xs[k]? = some x) (hj : j < R.own) (hf : R.fields x' = (R.fields x).set j u) (hp : R.piles x' = R.piles x) :
    ListRecs R t (w.setCell ⟨g, k * (R.own + 1) + j, none⟩ u) lo L A n cap (xs.set k x') hs ∧ w.grownBy (w.setCell ⟨g, k * (R.own + 1) + j, none⟩ u) (some g) := by
  subst hA
  obtain ⟨hst, hgs⟩ := h.row.stored (k * (R.own + 1) + j) u
  have hkx : k < xs.length := (List.getElem?_eq_some_iff.1 hx).1
  have hkh : k < hs.length := by rw [h.len]; exact hkx
  have hh : hs[k]? = some hs[k] := List.getElem?_eq_getElem hkh
  have hz : (xs.zip hs)[k]? = some (x, hs[k]) := by rw [List.getElem?_zip_eq_some]; exact ⟨hx, hh⟩
  have hold : ∀ (i : Nat) (y : α) (d : Hd), (xs.set k x')[i]? = some y → hs[i]? = some d → ∃ y0, xs[i]? = some y0 ∧ R.piles y = R.piles y0 := by
    intro i y d hy hd
    by_cases hik : i = k
    · subst hik
      rw [List.getElem?_set_self hkx] at hy
      injection hy with hy
      subst hy
      exact ⟨x, hx, hp⟩
    · rw [List.getElem?_set_ne (fun e => hik e.symm)] at hy
      exact ⟨y, hy, rfl⟩
  refine ⟨⟨by simp [h.len], ?_, fun i y d hy hd => ?_, fun i y d hy hd hn b hb => ?_⟩, hgs⟩
  · rw [zip_set _ _ _ _ _ hh, cellsOf_set (j := j) (u := u) R.cells_len hz (by omega) (by
      show R.fields x' ++ _ = (R.fields x ++ _).set j u
      rw [List.set_append_left _ _ (by rw [R.flen]; exact hj), hf, hp])]
    exact hst
  · obtain ⟨y0, hy0, e⟩ := hold i y d hy hd
    rw [e]
    have hpl := h.piles i y0 d hy0 hd
    refine ⟨hpl.1, hpl.2.1, hpl.2.2.1, fun hn => ?_⟩
    obtain ⟨b, off, e1, hl, hb, hc⟩ := hpl.2.2.2 hn
    exact ⟨b, off, e1, hl, Nat.lt_of_lt_of_le hb hgs.size, fun j u hu => gb_cell hgs (hc j u hu) (fun e2 => h.apart i y0 d hy0 hd hn _ e1 e2.symm)⟩
  · obtain ⟨y0, hy0, e⟩ := hold i y d hy hd
    exact h.apart i y0 d hy0 hd (by rw [← e]; exact hn) b hb
end
end Go.Proofs.YtboobimpoddacaaGreatDoor

namespace Go.Proofs.YtboobimpoddacaaGreatDoor
open Go.RowKit
set_option linter.unusedVariables false

theorem Sl.none_zero {w : World} {lo size n cap : Nat} {A : Option Addr} {cs : List Value} (h : Sl w lo size A n cap cs) (e : A = none) : n = 0 := by
  rcases Nat.eq_zero_or_pos n with h0 | h0
  · exact h0
  · obtain ⟨b, off, h1, _⟩ := h.2.2.2 h0
    rw [e] at h1
    cases h1
theorem Sl.addr {w : World} {lo size n cap : Nat} {A : Option Addr} {cs : List Value} {a : Addr} (h : Sl w lo size A n cap cs) (e : A = some a) : ∀ j u, cs[j]? = some u → w.cell? (a.add j) = some u := by
  intro j u hu
  have hjl := (List.getElem?_eq_some_iff.1 hu).1
  have hl := h.2.2.1
  have h0 : 0 < n := by
    rcases Nat.eq_zero_or_pos n with h0 | h0
    · subst h0; omega
    · exact h0
  obtain ⟨b, off, h1, _, _, hc⟩ := h.2.2.2 h0
  rw [e] at h1
  injection h1 with h1
  subst h1
  rw [add_off]
  exact hc j u hu
theorem Sl.take {w : World} {lo size n cap k : Nat} {A : Option Addr} {cs : List Value} (h : Sl w lo size A n cap cs) (hk : k ≤ n) : Sl w lo size A k cap (cs.take (k * size)) := ⟨Nat.le_trans hk h.1, h.2.1, h.2.2.take hk⟩
theorem Sl.drop {w : World} {lo size n cap k : Nat} {A : Option Addr} {cs : List Value} (h : Sl w lo size A n cap cs) (hk : k ≤ n) : Sl w lo size (if cap = k then A else A.map (·.add (k * size))) (n - k) (cap - k) (cs.drop (k * size)) := by
  have := h.1
  have := h.2.1
  exact ⟨by omega, by omega, h.2.2.cut hk h.1⟩
/-- All cells of records are of one cell. -/
theorem recs_one {α : Type} {R : Rec α} (hR : ∀ x, ∀ u ∈ R.fields x, u.oneCell' = true) {zs : List (α × Hd)} : ∀ u ∈ cellsOf R.cells zs, u.oneCell' = true := by
  induction zs with
  | nil => intro u hu; cases hu
  | cons z zs ih =>
    intro u hu
    rw [cellsOf_cons] at hu
    rcases List.mem_append.1 hu with hu | hu
    · unfold Rec.cells at hu
      rcases List.mem_append.1 hu with hu | hu
      · exact hR _ u hu
      · rw [List.mem_singleton.1 hu]; rfl
    · exact ih u hu
end Go.Proofs.YtboobimpoddacaaGreatDoor

namespace Go.Proofs.YtboobimpoddacaaGreatDoor
open Go.RowKit
set_option linter.unusedVariables false

section
variable {P : Program} {Q : Exit → Act → World → Prop}
attribute [local semireducible] flowOp
/-- THE LAW, where an operation may read a slot that a later one writes. -/
theorem wp_region_flow2 {id : Nat} {l : List Oper} {a : Act} {w : World} (hm : P.follows .mixedOrders = true) (hB : flowB l = true)
    (C : Nat → World → Prop) (T : Nat → World → World → Prop) (φ : Nat → Value → World → Prop)
    (hC : C 0 w.drew)
    (hT : ∀ n x y, T n x y → C n x → C (n + 1) y)
    (hφ : ∀ n x y, T n x y → C n x → ∀ i v, φ i v x → φ i v y)
    (hstep : ∀ i o, l[i]? = some o → ∀ (n : Nat) (u : Nat → Value) (x : World), n < l.length → C n x → (∀ j ∈ flowPreds o, φ j (u j) x) → (∀ j o', l[j]? = some o' → i ∈ flowPreds o' → ∀ d, o'.dst = some d → u j = a.tmps.getD d undef) →
      flowOp P l.toArray o (flowAct a u 0 l) x (fun v y => T n x y ∧ φ i v y))
    (hend : ∀ (n : Nat) (u : Nat → Value) (x : World), n ≤ l.length → C n x → (∀ i, i < l.length → φ i (u i) x) → Q .normal (flowAct a u 0 l) x) :
    (Code.region id l.toArray true).wp P Q a w := by
  simp only [flowB, Bool.and_eq_true, List.all_eq_true] at hB
  have hback : ∀ i o, l[i]? = some o → ∀ j ∈ flowPreds o, j < i := by
    intro i o hi j hj
    have := hB.1 (o, i) (List.mem_zipIdx_iff_getElem?.2 hi)
    simp only [decide_eq_true_eq] at this
    exact this j hj
  have hdist : ∀ (i : Nat) (o : Oper), l[i]? = some o → ∀ (j : Nat) (o' : Oper), l[j]? = some o' → j ≠ i → ∀ x, o.dst = some x → o'.dst ≠ some x := by
    intro i o hi j o' hj hne x hx hx'
    have := hB.2 (o, i) (List.mem_zipIdx_iff_getElem?.2 hi) (o', j) (List.mem_zipIdx_iff_getElem?.2 hj)
    simp [hx, hx'] at this
    omega
  have main : ∀ (fuel n : Nat) (listed : Array Bool) (u : Nat → Value) (x : World), n + fuel = l.length → listed.size = l.length → C n x → (∀ i, i < l.length → listed.getD i false = true → φ i (u i) x) →
      (∀ i o, l[i]? = some o → listed.getD i false = false → ∀ d, o.dst = some d → u i = a.tmps.getD d undef) → (∀ j o, l[j]? = some o → listed.getD j false = true → ∀ i ∈ flowPreds o, listed.getD i false = true) →
      (l.length ≤ fuel + ((List.range l.length).filter fun i => listed.getD i false).length) →
      wpAny P .any l.toArray Q fuel listed (flowAct a u 0 l) x := by
    intro fuel
    have allListed : ∀ (listed : Array Bool), listed.size = l.length → Region.ready .any l.toArray listed = [] → ∀ i, i < l.length → listed.getD i false = true := by
      intro listed hsz hr i
      induction i using Nat.strongRecOn with
      | _ i ih =>
        intro hi
        cases hl : listed.getD i false with
        | true => rfl
        | false =>
          have hmem : i ∈ Region.ready .any l.toArray listed := by
            unfold Region.ready
            rw [List.mem_filter]
            refine ⟨by simpa using hi, ?_⟩
            have ho : l[i]? = some l[i] := List.getElem?_eq_getElem hi
            have h1 : listed.getD i true = false := by
              have hlt : i < listed.size := by omega
              rw [Array.getD_eq_getD_getElem?, Array.getElem?_eq_getElem hlt] at hl ⊢
              simpa using hl
            simp only [List.getElem?_toArray, ho, Option.map_some, Option.getD_some, h1, Bool.not_false, Bool.true_and]
            rw [← Array.all_toList, List.all_eq_true]
            intro e he
            cases hb : Region.binds .any e with
            | false => simp
            | true =>
              have hj : e.on ∈ flowPreds l[i] := List.mem_map.2 ⟨e, List.mem_filter.2 ⟨he, hb⟩, rfl⟩
              have hlt := hback i _ ho _ hj
              simp only [Bool.not_true, Bool.false_or]
              exact ih e.on hlt (by omega)
          rw [hr] at hmem
          cases hmem
    induction fuel with
    | zero =>
      intro n listed u x hnf hsz hCx hf huw hcl hcount
      have hall : ∀ i, i < l.length → listed.getD i false = true := by
        intro i hi
        cases hl : listed.getD i false with
        | true => rfl
        | false =>
          have hlen : ((List.range l.length).filter fun i => listed.getD i false).length < l.length := by
            have h1 := (List.length_filter_lt_length_iff_exists (p := fun i => listed.getD i false) (l := List.range l.length)).2 ⟨i, by simpa using hi, by simp [hl]⟩
            rwa [List.length_range] at h1
          omega
      refine ⟨?_, hend n u x (by omega) hCx fun i hi => hf i hi (hall i hi)⟩
      unfold Region.ready
      rw [List.filter_eq_nil_iff]
      intro i hi
      have hi' : i < l.length := by simpa using hi
      have h1 : listed.getD i true = true := by
        have := hall i hi'
        have hlt : i < listed.size := by omega
        rw [Array.getD_eq_getD_getElem?, Array.getElem?_eq_getElem hlt] at this ⊢
        simpa using this
      simp [h1]
    | succ fuel ih =>
      intro n listed u x hnf hsz hCx hf huw hcl hcount
      refine ⟨fun hr => hend n u x (by omega) hCx fun i hi => hf i hi (allListed listed hsz hr i hi), fun i hi => ?_⟩
      unfold Region.ready at hi
      rw [List.mem_filter] at hi
      obtain ⟨hi1, hi2⟩ := hi
      have hil : i < l.length := by simpa using hi1
      have ho : l[i]? = some l[i] := List.getElem?_eq_getElem hil
      simp only [List.getElem?_toArray, ho, Option.map_some, Option.getD_some, Bool.and_eq_true] at hi2
      obtain ⟨hun, hedges⟩ := hi2
      have hnl : listed.getD i false = false := by
        have hlt : i < listed.size := by omega
        rw [Array.getD_eq_getD_getElem?, Array.getElem?_eq_getElem hlt] at hun ⊢
        simpa using hun
      have hpre : ∀ j ∈ flowPreds l[i], φ j (u j) x := by
        intro j hj
        obtain ⟨e, he, rfl⟩ := List.mem_map.1 hj
        obtain ⟨he1, he2⟩ := List.mem_filter.1 he
        have hlt := hback i _ ho _ hj
        rw [← Array.all_toList, List.all_eq_true] at hedges
        have := hedges e he1
        simp only [he2, Bool.not_true, Bool.false_or] at this
        exact hf e.on (by omega) this
      have hpl : ∀ k ∈ flowPreds l[i], listed.getD k false = true := by
        intro k hk
        obtain ⟨e, he, rfl⟩ := List.mem_map.1 hk
        obtain ⟨he1, he2⟩ := List.mem_filter.1 he
        rw [← Array.all_toList, List.all_eq_true] at hedges
        have := hedges e he1
        simpa only [he2, Bool.not_true, Bool.false_or] using this
      have hs := hstep i _ ho n u x (by omega) hCx hpre (fun j o' hj hij d hd => by
        refine huw j o' hj ?_ d hd
        cases hl : listed.getD j false with
        | false => rfl
        | true =>
          have := hcl j o' hj hl i hij
          rw [hnl] at this
          cases this)
      have next : ∀ v y, T n x y ∧ φ i v y → wpAny P .any l.toArray Q fuel (listed.setIfInBounds i true) ((flowAct a u 0 l).put l[i].dst v) y := by
        intro v y ⟨hTxy, hv⟩
        have he := flowAct_upd u v l 0 a i l[i] ho (hdist i _ ho)
        rw [Nat.zero_add] at he
        rw [← he]
        refine ih (n + 1) (listed.setIfInBounds i true) (upd u i v) y (by omega) (by simpa using hsz) (hT _ _ _ hTxy hCx) (fun j hj hl => ?_) (fun j o' hj hl d hd => ?_) (fun j o' hj hl k hk => ?_) ?_
        · by_cases hji : j = i
          · subst hji
            simpa [upd] using hv
          · have : listed.getD j false = true := by
              rw [Array.getD_eq_getD_getElem?, Array.getElem?_setIfInBounds_ne (fun e => hji e.symm)] at hl
              rwa [Array.getD_eq_getD_getElem?]
            simpa [upd, hji] using hφ _ _ _ hTxy hCx j _ (hf j hj this)
        · by_cases hji : j = i
          · subst hji
            rw [Array.getD_eq_getD_getElem?, Array.getElem?_setIfInBounds_self_of_lt (by omega)] at hl
            cases hl
          · rw [Array.getD_eq_getD_getElem?, Array.getElem?_setIfInBounds_ne (fun e => hji e.symm), ← Array.getD_eq_getD_getElem?] at hl
            simpa [upd, hji] using huw j o' hj hl d hd
        · have hkl : listed.getD k false = true := by
            by_cases hji : j = i
            · subst hji
              rw [ho] at hj
              injection hj with hj
              subst hj
              exact hpl k hk
            · rw [Array.getD_eq_getD_getElem?, Array.getElem?_setIfInBounds_ne (fun e => hji e.symm), ← Array.getD_eq_getD_getElem?] at hl
              exact hcl j o' hj hl k hk
          by_cases hki : k = i
          · subst hki
            rw [Array.getD_eq_getD_getElem?, Array.getElem?_setIfInBounds_self_of_lt (by omega)]
            rfl
          · rw [Array.getD_eq_getD_getElem?, Array.getElem?_setIfInBounds_ne (fun e => hki e.symm), ← Array.getD_eq_getD_getElem?]
            exact hkl
        · have hc : ((List.range l.length).filter fun k => listed.getD k false).length + 1 ≤ ((List.range l.length).filter fun k => (listed.setIfInBounds i true).getD k false).length := by
            have hsub : ((List.range l.length).filter fun k => (listed.setIfInBounds i true).getD k false).countP (fun k => k ≠ i) = ((List.range l.length).filter fun k => listed.getD k false).countP (fun k => k ≠ i) := by
              rw [List.countP_filter, List.countP_filter]
              refine List.countP_congr fun k hk => ?_
              by_cases hki : k = i
              · simp [hki]
              · rw [Array.getD_eq_getD_getElem?, Array.getElem?_setIfInBounds_ne (fun e => hki e.symm), Array.getD_eq_getD_getElem?]
            have hold : ((List.range l.length).filter fun k => listed.getD k false).countP (fun k => k ≠ i) = ((List.range l.length).filter fun k => listed.getD k false).length := by
              rw [List.countP_eq_length]
              intro k hk
              have := (List.mem_filter.1 hk).2
              simp
              rintro rfl
              simp [hnl] at this
            have hlt : ((List.range l.length).filter fun k => (listed.setIfInBounds i true).getD k false).countP (fun k => k ≠ i) < ((List.range l.length).filter fun k => (listed.setIfInBounds i true).getD k false).length := by
              refine Nat.lt_of_le_of_ne List.countP_le_length (fun e => ?_)
              rw [List.countP_eq_length] at e
              have him : i ∈ (List.range l.length).filter fun k => (listed.setIfInBounds i true).getD k false := by
                rw [List.mem_filter]
                refine ⟨by simpa using hil, ?_⟩
                have hlt' : i < listed.size := by omega
                rw [Array.getD_eq_getD_getElem?, Array.getElem?_setIfInBounds_self_of_lt hlt']
                rfl
              have := e i him
              simp at this
            omega
          omega
      unfold wpOp
      simp only [List.getElem?_toArray, ho]
      unfold flowOp at hs
      by_cases hw : Region.wanted l[i] (yielded l.toArray (flowAct a u 0 l).tmps) = true
      · rw [if_pos hw] at hs ⊢
        refine .inl ?_
        unfold Oper.wp
        generalize (execOp (flowAct a u 0 l).eval l[i]).run P x = r at hs ⊢
        cases r with
        | ok n y =>
          cases n <;> simp only [flowUpon] at hs <;> simp only [Oper.upon]
          case value v => exact next _ _ hs
          case skip => exact next _ _ hs
          case enter f args =>
            exact hs.mono fun e y' ⟨v, hv, h⟩ => by subst hv; exact next _ _ h
        | halt h y => simp only [flowUpon] at hs
      · rw [if_neg hw] at hs ⊢
        exact next _ _ hs
  refine wp_region_any hm ?_
  have h0 : flowAct a (fun j => match l[j]? with | some o => (match o.dst with | some d => a.tmps.getD d undef | none => undef) | none => undef) 0 l = a := by
    refine flowAct_self a _ l 0 (fun j o hj d hd => ?_)
    simp [hj, hd]
  have := main l.length 0 (Array.replicate l.length false) (fun j => match l[j]? with | some o => (match o.dst with | some d => a.tmps.getD d undef | none => undef) | none => undef) w.drew (by omega) (by simp) hC (fun i hi h => by
    exfalso
    rw [Array.getD_eq_getD_getElem?, Array.getElem?_replicate] at h
    simp [hi] at h) (fun i o hi _ d hd => by simp [hi, hd]) (fun j o hj hl => by
    exfalso
    have hjl := (List.getElem?_eq_some_iff.1 hj).1
    rw [Array.getD_eq_getD_getElem?, Array.getElem?_replicate] at hl
    simp [hjl] at hl) (by omega)
  rw [h0] at this
  simpa using this

/-- The operations one by one. -/
def flowAll2 (P : Program) (ops : List Oper) (C : Nat → World → Prop) (T : Nat → World → World → Prop) (φ : Nat → Value → World → Prop) (a : Act) : Nat → List Oper → Prop
  | _, [] => True
  | k, o :: l => (∀ (n : Nat) (u : Nat → Value) (x : World), n < ops.length → C n x → (∀ j ∈ flowPreds o, φ j (u j) x) → (∀ j o', ops[j]? = some o' → k ∈ flowPreds o' → ∀ d, o'.dst = some d → u j = a.tmps.getD d undef) → flowOp P ops.toArray o (flowAct a u 0 ops) x (fun v y => T n x y ∧ φ k v y)) ∧ flowAll2 P ops C T φ a (k + 1) l
theorem flowAll2_at {ops : List Oper} {C : Nat → World → Prop} {T : Nat → World → World → Prop} {φ : Nat → Value → World → Prop} {a : Act} : ∀ (l : List Oper) (k : Nat), flowAll2 P ops C T φ a k l → ∀ i o, l[i]? = some o →
    ∀ (n : Nat) (u : Nat → Value) (x : World), n < ops.length → C n x → (∀ j ∈ flowPreds o, φ j (u j) x) → (∀ j o', ops[j]? = some o' → k + i ∈ flowPreds o' → ∀ d, o'.dst = some d → u j = a.tmps.getD d undef) → flowOp P ops.toArray o (flowAct a u 0 ops) x (fun v y => T n x y ∧ φ (k + i) v y)
  | [], _, _, i, o, h => by simp at h
  | o1 :: l, k, hh, 0, o, h => by
    simp at h
    subst h
    exact hh.1
  | o1 :: l, k, hh, i + 1, o, h => by
    rw [show k + (i + 1) = k + 1 + i from by omega]
    exact flowAll2_at l (k + 1) hh.2 i o (by simpa using h)
theorem wp_flow2 {id : Nat} {l : List Oper} {a : Act} {w : World} (hm : P.follows .mixedOrders = true) (hB : flowB l = true)
    (C : Nat → World → Prop) (T : Nat → World → World → Prop) (φ : Nat → Value → World → Prop)
    (hC : C 0 w.drew)
    (hT : ∀ n x y, T n x y → C n x → C (n + 1) y)
    (hφ : ∀ n x y, T n x y → C n x → ∀ i v, φ i v x → φ i v y)
    (hstep : flowAll2 P l C T φ a 0 l)
    (hend : ∀ (n : Nat) (u : Nat → Value) (x : World), n ≤ l.length → C n x → (∀ i, i < l.length → φ i (u i) x) → Q .normal (flowAct a u 0 l) x) :
    (Code.region id l.toArray true).wp P Q a w :=
  wp_region_flow2 hm hB C T φ hC hT hφ (fun i o hi n u x hn hC hp hu => by have := flowAll2_at l 0 hstep i o hi n u x hn hC hp (by rw [Nat.zero_add]; exact hu); rwa [Nat.zero_add] at this)
    hend
end
/-- All values known ahead. -/
theorem wp_known2 {P : Program} {Q : Exit → Act → World → Prop} {id : Nat} {l : List Oper} {a : Act} {w : World} (w0 : World) (vals : List Value) (hw : w0.grownBy w none) (hm : P.follows .mixedOrders = true) (hB : flowB l = true)
    (hstep : flowAll2 P l (PC w0) PT (fKnown vals) a 0 l)
    (hend : ∀ (u : Nat → Value) (x : World), w0.grownBy x none → (∀ i, i < l.length → u i = vals.getD i undef) → Q .normal (flowAct a u 0 l) x) :
    (Code.region id l.toArray true).wp P Q a w :=
  wp_flow2 hm hB (PC w0) PT (fKnown vals) (gb_drew hw) (fun n x y h k => gb_trans k h) (fun n x y _ _ i v h => h) hstep (fun n u x _ hC hp => hend u x hC hp)
end Go.Proofs.YtboobimpoddacaaGreatDoor

namespace Go.Proofs.YtboobimpoddacaaGreatDoor
open Go.RowKit
set_option linter.unusedVariables false

/-- Rows of a kind keep their size, their cells are as they were or those of 'fin'; rows of one element at most stay as they are. -/
def KF (B : Nat) (t : TypeId) (size : Nat) (fin : List Value) (x y : World) : Prop :=
  Below B x y ∧ ∀ (g : Nat) (cur : Array Value), B ≤ g → x.heap[g]? = some (.cells cur t (0, 0)) →
    ∃ cur' : Array Value, y.heap[g]? = some (.cells cur' t (0, 0)) ∧ cur'.size = cur.size ∧ (cur.size ≤ size → cur' = cur) ∧ ∀ (j : Nat), cur'[j]? = cur[j]? ∨ cur'[j]? = fin[j]?
/-- A row that is the beginning of 'fin'. -/
def RowF (x : World) (B : Nat) (t : TypeId) (size : Nat) (fin : List Value) (v : Value) (n c : Nat) : Prop :=
  ∃ g cur, v = .slice (some ⟨g, 0, none⟩) n c ∧ B ≤ g ∧ x.heap[g]? = some (.cells cur t (0, 0)) ∧ cur.size = c * size ∧ n ≤ c ∧ c ≤ maxLen ∧ (n = 0 → c = 0) ∧ ∀ j, j < n * size → cur[j]? = fin[j]?
/-- A row of one element. -/
def RowO (x : World) (B : Nat) (t : TypeId) (us : List Value) (v : Value) : Prop :=
  ∃ g, v = .slice (some ⟨g, 0, none⟩) 1 1 ∧ B ≤ g ∧ x.heap[g]? = some (.cells us.toArray t (0, 0))
section
variable {B : Nat} {t : TypeId} {size : Nat} {fin us : List Value} {x y : World} {v : Value} {n c : Nat}
theorem KF.of_gb (h : x.grownBy y none) (hB : B ≤ x.heap.size) : KF B t size fin x y := by
  refine ⟨⟨h.os, h.tape, h.output, h.size, fun k hk => h.block k (by omega) (by simp)⟩, fun g cur _ hg => ?_⟩
  have hlt : g < x.heap.size := Blk.lt hg
  exact ⟨cur, (h.block g hlt (by simp)).trans hg, rfl, fun _ => rfl, fun _ => .inl rfl⟩
theorem RowF.keep (h : RowF x B t size fin v n c) (hk : KF B t size fin x y) : RowF y B t size fin v n c := by
  obtain ⟨g, cur, rfl, hg, hb, hs, hc, hm, h0, hj⟩ := h
  obtain ⟨cur', hb', hs', _, hj'⟩ := hk.2 g cur hg hb
  refine ⟨g, cur', rfl, hg, hb', by omega, hc, hm, h0, fun j hlt => ?_⟩
  rcases hj' j with h1 | h1
  · rw [h1]; exact hj j hlt
  · exact h1
theorem RowO.keep (h : RowO x B t us v) (hul : us.length ≤ size) (hk : KF B t size fin x y) : RowO y B t us v := by
  obtain ⟨g, rfl, hg, hb⟩ := h
  obtain ⟨cur', hb', _, hsame, _⟩ := hk.2 g us.toArray hg hb
  rw [hsame (by simpa using hul)] at hb'
  exact ⟨g, rfl, hg, hb'⟩
theorem RowF.empty (x : World) (hB : B ≤ x.heap.size) : RowF (x.alloc (.cells #[] t)) B t size fin (.slice (some ⟨x.heap.size, 0, none⟩) 0 0) 0 0 :=
  ⟨x.heap.size, #[], rfl, hB, heap_alloc_new x _, by simp, Nat.le_refl _, Nat.zero_le _, fun _ => rfl, fun j hj => absurd hj (by omega)⟩
theorem RowO.new (x : World) (hB : B ≤ x.heap.size) (us : List Value) : RowO (x.alloc (.cells us.toArray t)) B t us (.slice (some ⟨x.heap.size, 0, none⟩) 1 1) := ⟨x.heap.size, rfl, hB, heap_alloc_new x _⟩
theorem RowF.own (h : RowF x B t size fin v n c) (hf : fin.length = n * size) : ∃ g, v = .slice (some ⟨g, 0, none⟩) n c ∧ x.ownsRow B t size (.slice (some ⟨g, 0, none⟩) n c) n fin := by
  obtain ⟨g, cur, rfl, hg, hb, hs, hc, hm, h0, hj⟩ := h
  refine ⟨g, rfl, hf, .inr ⟨g, c, cur, rfl, hg, hb, hc, hm, hs, ?_⟩⟩
  have hle : n * size ≤ c * size := Nat.mul_le_mul_right _ hc
  apply List.ext_getElem?
  intro j
  by_cases hlt : j < n * size
  · rw [List.getElem?_take, if_pos hlt, Array.getElem?_toList]
    exact hj j hlt
  · rw [List.getElem?_eq_none (by simp; omega), List.getElem?_eq_none (by omega)]

theorem chain_app {P : Program} {t' : TypeId} {bytes : Nat} {z : Value} (E : Elem P t' t size bytes z) (h : RowF x B t size fin v n c) (hB : B ≤ x.heap.size) {A : Option Addr} {m c0 : Nat} (hA : A = none → m = 0) (hul : us.length = m * size)
    (hus : ∀ a, A = some a → ∀ j u, us[j]? = some u → x.cell? (a.add j) = some u) (hone : ∀ u ∈ us, u.oneCell' = true) (hfin : ∀ j, j < m * size → fin[n * size + j]? = us[j]?) (hmax : n + m ≤ 9223372036854775807) (hbytes : (n + m) * bytes ≤ 140737488355328) (ty : TypeId) :
    ∃ v' c' y, (Builtin.append_ #[t', t'] ty #[v, .slice A m c0]).run P x = .ok v' y ∧ KF B t size fin x y ∧ RowF y B t size fin v' (n + m) c' := by
  obtain ⟨i, hi, hz, hs1, hb⟩ := E.hi
  obtain ⟨g, cur, rfl, hg, hbk, hs, hc, hm, h0, hj⟩ := h
  have hown : x.ownsRow B t size (.slice (some ⟨g, 0, none⟩) n c) n (cur.toList.take (n * size)) :=
    ⟨by have : n * size ≤ c * size := Nat.mul_le_mul_right _ hc
        rw [List.length_take, Array.length_toList, hs]; omega, .inr ⟨g, c, cur, rfl, hg, hbk, hc, hm, hs, rfl⟩⟩
  have hcs : n * size ≤ c * size := Nat.mul_le_mul_right _ hc
  cases A with
  | none =>
    have hm0 := hA rfl
    subst hm0
    exact ⟨_, c, x, run_app_none (P := P) B t' ty t i size c0 E.ht hi _ n _ hown, KF.of_gb (gb_refl _ _) hB, g, cur, rfl, hg, hbk, hs, hc, hm, h0, hj⟩
  | some a =>
    have hus := hus a rfl
    by_cases hroom : n + m ≤ c
    · have hms : m * size + n * size ≤ c * size := by rw [← Nat.add_mul]; exact Nat.mul_le_mul_right _ (by omega)
      have hr := run_append_room (P := P) x t' ty t i E.ht hi g n c cur hbk a m c0 us (by rw [hs1]; exact hul) hus hone hroom (by rw [hs1, hul, hs]; omega)
      rw [hs1] at hr
      obtain ⟨new, hnew⟩ : ∃ new, (cur.toList.take (n * size) ++ us ++ cur.toList.drop (n * size + us.length)).toArray = new := ⟨_, rfl⟩
      rw [hnew] at hr
      have hns : new.size = c * size := by
        rw [← hnew, List.size_toArray, List.length_append, List.length_append, List.length_take, List.length_drop, Array.length_toList, hs, hul]
        omega
      have hat : ∀ (j : Nat), new[j]? = cur[j]? ∨ new[j]? = fin[j]? := by
        intro j
        rw [← hnew, ← Array.getElem?_toList, List.append_assoc]
        have hlt : (cur.toList.take (n * size)).length = n * size := by rw [List.length_take, Array.length_toList, hs]; omega
        by_cases h1 : j < n * size
        · left
          rw [List.getElem?_append_left (by omega), List.getElem?_take, if_pos h1, Array.getElem?_toList]
        · rw [List.getElem?_append_right (by omega), hlt]
          by_cases h2 : j - n * size < m * size
          · right
            rw [List.getElem?_append_left (by omega), ← hfin _ h2, show n * size + (j - n * size) = j from by omega]
          · left
            rw [List.getElem?_append_right (by omega), List.getElem?_drop, hul, show n * size + m * size + (j - n * size - m * size) = j from by omega, Array.getElem?_toList]
      have hpre : ∀ (j : Nat), j < (n + m) * size → new[j]? = fin[j]? := by
        intro j hjl
        rw [Nat.add_mul] at hjl
        rw [← hnew, ← Array.getElem?_toList, List.append_assoc]
        have hlt : (cur.toList.take (n * size)).length = n * size := by rw [List.length_take, Array.length_toList, hs]; omega
        by_cases h1 : j < n * size
        · rw [List.getElem?_append_left (by omega), List.getElem?_take, if_pos h1, Array.getElem?_toList]
          exact hj j h1
        · rw [List.getElem?_append_right (by omega), hlt, List.getElem?_append_left (by omega), ← hfin _ (by omega), show n * size + (j - n * size) = j from by omega]
      have hh := setRow_heap x g cur new t (0, 0) hbk
      refine ⟨_, c, _, hr, ⟨⟨rfl, rfl, rfl, by simp [World.setRow], fun k hk => setRow_other x g k _ (by omega)⟩, fun g1 cur1 hg1 h1 => ?_⟩, g, new, rfl, hg, hh, hns, hroom, hm, fun e => h0 (by omega), hpre⟩
      by_cases hgg : g1 = g
      · subst hgg
        rw [hbk] at h1
        injection h1 with h1
        injection h1 with h1
        subst h1
        refine ⟨new, hh, by omega, fun hsm => ?_, hat⟩
        rcases Nat.eq_zero_or_pos m with hm0 | hm0
        · subst hm0
          apply Array.ext_getElem?
          intro j
          have hu0 : us = [] := List.eq_nil_of_length_eq_zero (by omega)
          rw [← hnew, hu0]
          simp
        · exfalso
          rcases Nat.eq_zero_or_pos n with hn0 | hn0
          · have := h0 hn0; omega
          · have h2 : 2 * size ≤ c * size := Nat.mul_le_mul_right _ (by omega)
            have := E.hsz
            omega
      · exact ⟨cur1, (setRow_other x g g1 _ hgg).trans h1, rfl, fun _ => rfl, fun _ => .inl rfl⟩
    · have hge := grownCap_ge x (n + m) c t
      have hcm : grownCap x (n + m) c t ≤ maxLen := grownCap_le_maxLen x (n + m) c t (by unfold maxLen; omega)
      have hr := run_append_grow (P := P) x t' ty t i _ E.ht hi hz ⟨g, 0, none⟩ n c (cur.toList.take (n * size)) (by rw [hs1, List.length_take, Array.length_toList, hs]; omega) (by
        intro j u hu
        rw [List.getElem?_take] at hu
        split at hu
        · have hadd : (⟨g, 0, none⟩ : Addr).add j = ⟨g, j, none⟩ := by unfold Addr.add; split <;> simp_all
          rw [hadd, Blk.cell hbk j, ← Array.getElem?_toList]
          exact hu
        · cases hu) a m c0 us (by rw [hs1]; exact hul) hus (by omega) (by omega) (growslice_fits (by omega) (by rw [hb]; exact hbytes))
      refine ⟨_, _, _, hr, KF.of_gb ⟨rfl, rfl, rfl, by simp, fun k hk _ => Below.heap_alloc x.drew _ k hk⟩ hB, x.heap.size, _, rfl, hB, heap_alloc_new x.drew _, ?_, hge, hcm, fun e => absurd e (by omega), fun j hjl => ?_⟩
      · simp only [Array.size_append, List.size_toArray, size_zeroCells, E.hzs, hul]
        have h1 : (cur.toList.take (n * size)).length = n * size := by rw [List.length_take, Array.length_toList, hs]; omega
        rw [h1]
        have h2 := Nat.add_mul (n + m) (grownCap x (n + m) c t - (n + m)) size
        rw [show n + m + (grownCap x (n + m) c t - (n + m)) = grownCap x (n + m) c t from by omega, Nat.add_mul] at h2
        omega
      · rw [Nat.add_mul] at hjl
        have hlt : (cur.toList.take (n * size)).length = n * size := by rw [List.length_take, Array.length_toList, hs]; omega
        rw [← Array.getElem?_toList, Array.toList_append, Array.toList_append, List.getElem?_append_left (by rw [List.length_append, List.length_take, Array.length_toList, hs]; simp only [hul]; omega)]
        show (cur.toList.take (n * size) ++ us)[j]? = _
        by_cases h1 : j < n * size
        · rw [List.getElem?_append_left (by omega), List.getElem?_take, if_pos h1, Array.getElem?_toList]
          exact hj j h1
        · rw [List.getElem?_append_right (by omega), hlt, ← hfin _ (by omega), show n * size + (j - n * size) = j from by omega]
end

/-- An append in a region that draws its order. -/
theorem flowOp_chain {P : Program} {ops : Array Oper} {o : Oper} {a : Act} {w w' : World} {F : Value → World → Prop} {t : TypeId} {v u r : Value} (hw : Region.wanted o (yielded ops a.tmps) = true) (s x : Operand)
    (ho : o.op = .call { callee := .builtin .append, args := #[s, x], argTypes := #[t, t] }) (hs : a.eval s = v) (hx : a.eval x = u) (hr : (Builtin.append_ #[t, t] o.type #[v, u]).run P w = .ok r w') (h : F r w') : flowOp P ops o a w F := by
  rw [flowOp_def, if_pos hw]
  unfold execOp
  simp only [ho, resolve, invoke, builtin, Sem.run_bind, Sem.run_pure, Result.andThen_ok, List.map_toArray, List.map_cons, List.map_nil, hs, hx, hr]
  exact h
end Go.Proofs.YtboobimpoddacaaGreatDoor

namespace Go.Proofs.YtboobimpoddacaaGreatDoor
open Go.RowKit
set_option linter.unusedVariables false

/-- Block R is a reader that has been asked at most m times. -/
def Rdr (w : World) (R m : Nat) : Prop :=
  ∃ (A : Option Addr) (len cap p : Nat), Blk w R 53 #[.slice A len cap, .int .i64 (p : Int)] ∧ p ≤ m ∧ len ≤ 2000 ∧
    (0 < len → ∃ b off, A = some ⟨b, off, none⟩ ∧ b < R ∧ ∀ j, j < len → ∃ u : Nat, u ≤ 255 ∧ w.cell? ⟨b, off + j, none⟩ = some (.int .u8 (u : Int)))

theorem Rdr.lt {w : World} {R m : Nat} (h : Rdr w R m) : R < w.heap.size := by
  obtain ⟨_, _, _, _, hb, _⟩ := h
  exact hb.lt
theorem Rdr.mono {w : World} {R m m' : Nat} (h : Rdr w R m) (hm : m ≤ m') : Rdr w R m' := by
  obtain ⟨A, len, cap, p, hb, hp, hl, hc⟩ := h
  exact ⟨A, len, cap, p, hb, by omega, hl, hc⟩
theorem Rdr.grown {w w' : World} {R m : Nat} {row : Option Nat} (h : Rdr w R m) (hg : w.grownBy w' row) (hr : ∀ k, row = some k → R < k) : Rdr w' R m := by
  obtain ⟨A, len, cap, p, hb, hp, hl, hc⟩ := h
  refine ⟨A, len, cap, p, hb.grown hg (fun e => by have := hr R e.symm; omega), hp, hl, fun h0 => ?_⟩
  obtain ⟨b, off, e, hlt, hcell⟩ := hc h0
  refine ⟨b, off, e, hlt, fun j hj => ?_⟩
  obtain ⟨u, hu, hcu⟩ := hcell j hj
  exact ⟨u, hu, gb_cell hg hcu (fun e => by have := hr b e.symm; omega)⟩

set_option maxHeartbeats 1000000 in
set_option maxRecDepth 100000 in
theorem c_pick (R m : Nat) (n : Int) (w : World) (h : Rdr w R m) (hm : m ≤ 1000000) (hn : 1 ≤ n) (hn' : n ≤ 1000000) :
    Calls Tryz.prog 18 #[.pointer (some ⟨R, 0, none⟩), .int .i64 n] w fun e w' =>
      ∃ k : Nat, (k : Int) < n ∧ e = .returned (.int .i64 (k : Int)) ∧ Rdr w' R (m + 1) ∧ w.grownBy w' (some R) ∧ w'.heap.size = w.heap.size := by
  obtain ⟨A, len, cap, p, hb, hp, hl, hc⟩ := h
  have h0 : w.cell? ⟨R, 0, none⟩ = some (.slice A len cap) := hb.cell 0
  have h1 : w.cell? ⟨R, 1, none⟩ = some (.int .i64 (p : Int)) := hb.cell 1
  have hf : w.frozen? ⟨R, 1, none⟩ = false := hb.frozen 1
  have hr : Blk (w.setCell ⟨R, 1, none⟩ (.int .i64 ((p : Int) + 1))) R 53 #[.slice A len cap, .int .i64 ((p : Int) + 1)] := hb.set_ 1 _
  have hR : Rdr (w.setCell ⟨R, 1, none⟩ (.int .i64 ((p : Int) + 1))) R (m + 1) := by
    refine ⟨A, len, cap, p + 1, hr, by omega, hl, fun h => ?_⟩
    obtain ⟨b, off, e, hlt, hcell⟩ := hc h
    refine ⟨b, off, e, hlt, fun j hj => ?_⟩
    obtain ⟨u, hu, hcu⟩ := hcell j hj
    exact ⟨u, hu, by rw [World.cell?_setCell_other _ _ _ _ (fun e => by have := congrArg Addr.block e; simp at this; omega)]; exact hcu⟩
  have hg : w.grownBy (w.setCell ⟨R, 1, none⟩ (.int .i64 ((p : Int) + 1))) (some R) := gb_setCell (gb_refl _ _) (.inl rfl) _
  have hn1 : ¬ n < 1 := by omega
  by_cases hlen : len = 0
  · subst hlen
    clear hc
    go_enter Tryz.func18, Tryz.ntmps18
    go_wp2
    go_ret
    exact ⟨0, by omega, rfl, hR, hg, by simp⟩
  · obtain ⟨b, off, rfl, hlt, hcell⟩ := hc (by omega)
    clear hc
    have hne : ((len : Int) == 0) = false := by simp; omega
    by_cases hpl : p < len
    · obtain ⟨u, hu, hcu⟩ := hcell p hpl
      clear hcell
      go_enter Tryz.func18, Tryz.ntmps18
      go_wp2
      go_ret
      exact ⟨((u : Int) % n).toNat, by have := Int.emod_lt_of_pos (u : Int) (show 0 < n by omega); have := Int.emod_nonneg (u : Int) (show n ≠ 0 by omega); omega, ret_int (by have := Int.emod_nonneg (u : Int) (show n ≠ 0 by omega); omega), hR, hg, by simp⟩
    · obtain ⟨q1, t1, hq1⟩ : ∃ q : Nat, (p : Int).tmod (len : Int) = (q : Int) ∧ q < len := ⟨p % len, by rw [Int.tmod_eq_emod_of_nonneg (by omega)]; rfl, Nat.mod_lt _ (by omega)⟩
      obtain ⟨q2, t2, hq2⟩ : ∃ q : Nat, ((p : Int) * 7 + 3).tmod (len : Int) = (q : Int) ∧ q < len := ⟨(p * 7 + 3) % len, by rw [Int.tmod_eq_emod_of_nonneg (by omega)]; rfl, Nat.mod_lt _ (by omega)⟩
      obtain ⟨q3, t3, hq3⟩ : ∃ q : Nat, (p : Int).tdiv (len : Int) = (q : Int) ∧ q ≤ p := ⟨p / len, by rw [Int.tdiv_eq_ediv_of_nonneg (by omega)]; rfl, Nat.div_le_self _ _⟩
      obtain ⟨u1, hu1, hcu1⟩ := hcell q1 hq1
      obtain ⟨u2, hu2, hcu2⟩ := hcell q2 hq2
      have w1 : IntKind.i64.wrap ((p : Int) * 7) = (p : Int) * 7 := IntWalk.i64_in _ (by omega)
      have w2 : IntKind.i64.wrap ((p : Int) * 7 + 3) = (p : Int) * 7 + 3 := IntWalk.i64_in _ (by omega)
      have w3 : IntKind.i64.wrap ((u1 : Int) * 131) = (u1 : Int) * 131 := IntWalk.i64_in _ (by omega)
      have w4 : IntKind.i64.wrap ((u2 : Int) * 1117) = (u2 : Int) * 1117 := IntWalk.i64_in _ (by omega)
      have w5 : IntKind.i64.wrap ((u1 : Int) * 131 + (u2 : Int) * 1117) = (u1 : Int) * 131 + (u2 : Int) * 1117 := IntWalk.i64_in _ (by omega)
      have w6 : IntKind.i64.wrap ((p : Int) * 29) = (p : Int) * 29 := IntWalk.i64_in _ (by omega)
      have w7 : IntKind.i64.wrap ((u1 : Int) * 131 + (u2 : Int) * 1117 + (p : Int) * 29) = (u1 : Int) * 131 + (u2 : Int) * 1117 + (p : Int) * 29 := IntWalk.i64_in _ (by omega)
      have w8 : IntKind.i64.wrap (q3 : Int) = (q3 : Int) := IntWalk.i64_in _ (by omega)
      have w9 : IntKind.i64.wrap ((q3 : Int) * 53) = (q3 : Int) * 53 := IntWalk.i64_in _ (by omega)
      have w10 : IntKind.i64.wrap ((u1 : Int) * 131 + (u2 : Int) * 1117 + (p : Int) * 29 + (q3 : Int) * 53) = (u1 : Int) * 131 + (u2 : Int) * 1117 + (p : Int) * 29 + (q3 : Int) * 53 := IntWalk.i64_in _ (by omega)
      have w11 : IntKind.i64.wrap ((u1 : Int) * 1117) = (u1 : Int) * 1117 := IntWalk.i64_in _ (by omega)
      clear hcell
      go_enter Tryz.func18, Tryz.ntmps18
      go_wp2
      go_quiet (fail)
      clear w1 w2 w3 w4 w5 w6 w7 w8 w9 w10 w11 t1 t2 t3
      have hX0 : 0 ≤ (u1 : Int) * 131 + (u2 : Int) * 1117 + (p : Int) * 29 + (q3 : Int) * 53 := by omega
      have hX1 : (u1 : Int) * 131 + (u2 : Int) * 1117 + (p : Int) * 29 + (q3 : Int) * 53 ≤ 1000000000 := by omega
      generalize (u1 : Int) * 131 + (u2 : Int) * 1117 + (p : Int) * 29 + (q3 : Int) * 53 = X at *
      obtain ⟨hY0, hY1⟩ := xor_nonneg X (X / 64) hX0 (by omega) (by omega) (by omega)
      go_wp2
      go_ret
      generalize bits .xor .i64 X (X / 64) = Y at *
      exact ⟨(Y % n).toNat, by have := Int.emod_lt_of_pos Y (show 0 < n by omega); have := Int.emod_nonneg Y (show n ≠ 0 by omega); omega, ret_int (by have := Int.emod_nonneg Y (show n ≠ 0 by omega); omega), hR, gb_drewN hg _, by simp⟩

theorem Rdr.alloc {w : World} {R m : Nat} (h : Rdr w R m) (o : Obj) : Rdr (w.alloc o) R m := h.grown (row := none) (gb_alloc (gb_refl _ _) _) (by simp)
theorem Rdr.drewN {w : World} {R m : Nat} (h : Rdr w R m) (n : Nat) : Rdr (w.drewN n) R m := h
theorem Rdr.drew {w : World} {R m : Nat} (h : Rdr w R m) : Rdr w.drew R m := h

/-! ### regions that draw their order, beside a reader -/
/-- The class of worlds: what was there when the call began is kept (but for 'row'), and the reader has been asked at most m + K n times. -/
def RC (w : World) (row : Option Nat) (R m K n : Nat) (x : World) : Prop := w.grownBy x row ∧ w.heap.size ≤ x.heap.size ∧ Rdr x R (m + K * n)
/-- One operation. -/
def RT (R m K n : Nat) (x y : World) : Prop := x.grownBy y (some R) ∧ Rdr y R (m + K * (n + 1))
section
variable {w x y : World} {row : Option Nat} {R m K n : Nat}
theorem RC.start (hg : w.grownBy x row) (h : Rdr x R m) (K : Nat) : RC w row R m K 0 x.drew := ⟨gb_drew hg, hg.size, h⟩
theorem RC.next (hr : row = some R ∨ w.heap.size ≤ R) (h : RT R m K n x y) (hx : RC w row R m K n x) : RC w row R m K (n + 1) y :=
  ⟨gb_step hx.1 h.1 (fun g e => by injection e with e; subst e; exact hr), Nat.le_trans hx.2.1 h.1.size, h.2⟩
theorem RC.same (hx : RC w row R m K n x) : RT R m K n x x := ⟨gb_refl _ _, hx.2.2.mono (Nat.add_le_add_left (Nat.mul_le_mul_left _ (Nat.le_succ _)) _)⟩
theorem RC.alloc (hx : RC w row R m K n x) (o : Obj) : RT R m K n x (x.alloc o) := ⟨gb_alloc (gb_refl _ _) _, (hx.2.2.mono (Nat.add_le_add_left (Nat.mul_le_mul_left _ (Nat.le_succ _)) _)).alloc o⟩
theorem RC.rdr (hx : RC w row R m K n x) : Rdr x R (m + K * n) := hx.2.2
end
end Go.Proofs.YtboobimpoddacaaGreatDoor

namespace Go.Proofs.YtboobimpoddacaaGreatDoor
open Go.RowKit
set_option linter.unusedVariables false

theorem Strs.cellKeep {w w' : World} {lo n cap R : Nat} {A : Option Addr} {xs : List ByteArray} (h : Strs w lo A n cap xs) (hg : w.grownBy w' (some R)) (hR : R < lo) : Strs w' lo A n cap xs :=
  Sl.keep h hg (fun k e => by injection e with e; omega)
theorem Ints.cellKeep {w w' : World} {lo n cap R : Nat} {A : Option Addr} {xs : List Int} (h : Ints w lo A n cap xs) (hg : w.grownBy w' (some R)) (hR : R < lo) : Ints w' lo A n cap xs :=
  Sl.keep h hg (fun k e => by injection e with e; omega)

theorem c_of (R m lo : Nat) (A : Option Addr) (n cap : Nat) (ss : List ByteArray) (w : World) (h : Rdr w R m) (hm : m ≤ 1000000) (hs : Strs w lo A n cap ss) (hlo : R < lo) (hn : 1 ≤ n) (hn' : n ≤ 1000000) :
    Calls Tryz.prog 31 #[.pointer (some ⟨R, 0, none⟩), .slice A n cap] w fun e w' =>
      ∃ s, s ∈ ss ∧ e = .returned (.string s) ∧ Rdr w' R (m + 1) ∧ w.grownBy w' (some R) ∧ w'.heap.size = w.heap.size := by
  go_enter Tryz.func31, Tryz.ntmps31
  go_wp2_with fail
  refine (c_pick _ _ _ _ h hm (by omega) (by omega)).mono ?_
  rintro e w1 ⟨k, hk, rfl, hR1, hg1, hz1⟩
  obtain ⟨b, off, z, rfl, hz, hcell⟩ := (hs.cellKeep hg1 hlo).at_ (k := k) (by omega)
  have Hz := Lib.hid hz1
  clear hz1
  go_wp2
  go_ret
  exact ⟨z, List.mem_of_getElem? hz.out, rfl, hR1, hg1, Hz.out⟩

def letters (xs : List Int) : List UInt8 := xs.map fun z => (97 + z).toNat.toUInt8
def ballotText (xs : List Int) : ByteArray := if ballotOK xs 5 then ⟨(letters xs).toArray⟩ else ⟨#[]⟩
theorem ballotText_size (xs : List Int) (h : xs.length ≤ 10) : (ballotText xs).size ≤ 100 := by
  unfold ballotText
  split
  · simp [letters, ByteArray.size]; omega
  · exact Nat.zero_le _
theorem letter_cut (z : Int) (h0 : 0 ≤ z) (h4 : z ≤ 4) : (⟨#[97, 98, 99, 100, 101]⟩ : ByteArray).extract z.toNat (z + 1).toNat = ⟨#[(97 + z).toNat.toUInt8]⟩ := by
  obtain ⟨k, rfl⟩ := Int.eq_ofNat_of_zero_le h0
  have hk : k ≤ 4 := by omega
  match k, hk with
  | 0, _ => rfl
  | 1, _ => rfl
  | 2, _ => rfl
  | 3, _ => rfl
  | 4, _ => rfl

set_option maxHeartbeats 400000 in
theorem c_spec_BallotText (lo : Nat) (A : Option Addr) (n cap : Nat) (xs : List Int) (w : World) (h : Ints w lo A n cap xs) (hn : n ≤ 1000000) :
    Calls Tryz.prog 69 #[.slice A n cap] w fun e w' => e = .returned (.string (ballotText xs)) ∧ ∃ d, w' = w.drewN d := by
  have hlc := h.le
  have hcm := h.max
  have hxl := Lib.hid h.len
  by_cases hok : ballotOK xs 5 = true
  · have hall := Lib.hid ((ballotOK_iff xs 5).1 hok).2.2
    have Hok := Lib.hid hok
    go_enter Tryz.func69, Tryz.ntmps69
    go_wp2
    go_loopw [3, 4] (fun v i wr => ∃ (k d : Nat) (t : ByteArray), k ≤ n ∧ i = .int .i64 k ∧ wr = w.drewN d ∧ v = .string t ∧ t.size ≤ 1000000 ∧ Hid (t = ⟨(letters (xs.take k)).toArray⟩)) (fun _ i _ => n - (intOf i).toNat)
    case atStart => exact ⟨0, 0, _, Nat.zero_le _, rfl, rfl, rfl, Nat.zero_le _, Lib.hid rfl⟩
    case round =>
      obtain ⟨k, d, t, hk, rfl, rfl, rfl, hts, ht⟩ := hrel
      by_cases hlt : k < n
      · obtain ⟨b, off, z, rfl, hz, hcell⟩ := h.at_ hlt
        have hb := hall.out z (List.mem_of_getElem? hz.out)
        obtain ⟨h0, h5⟩ := hb
        have hk' : (k : Int) < (n : Int) := by omega
        have w1 : IntKind.i64.wrap (z + 1) = z + 1 := IntWalk.i64_in _ (by omega)
        have w2 : 0 ≤ z + 1 := by omega
        have w3 : z ≤ 5 := by omega
        have w4 : z + 1 ≤ 5 := by omega
        have w5 : z ≤ z + 1 := by omega
        have hcut := letter_cut z h0 (by omega)
        have hadd : ∀ wx : World, (Op.stringOp .add t ⟨#[(97 + z).toNat.toUInt8]⟩).run Tryz.prog wx = .ok (.string (t ++ ⟨#[(97 + z).toNat.toUInt8]⟩)) wx := fun wx => run_string_add wx _ _ (by omega) (by show ((1 : Nat) : Int) ≤ 8388608; omega)
        have ht' : Hid (t ++ ⟨#[(97 + z).toNat.toUInt8]⟩ = ⟨(letters (xs.take (k + 1))).toArray⟩) := Lib.hid (by
          rw [ht.out, take_succ_of hz.out, letters, letters, List.map_append]
          exact ByteArray.mk_append_mk _ [(97 + z).toNat.toUInt8])
        have hsz : (t ++ ⟨#[(97 + z).toNat.toUInt8]⟩ : ByteArray).size ≤ 1000000 := by
          rw [ht'.out]
          simp [letters, ByteArray.size]
          omega
        have Hsz := Lib.hid hsz
        clear hsz
        go_wp2_with (go_at_call 99; refine (c_spec_BallotValid lo _ n cap xs _ _ (Sl.drewN h _)).mono ?_; rintro e w' ⟨rfl, d2, rfl⟩)
        go_quiet (fail)
        clear hadd hcut w1
        go_wp2
        go_roundw
        case rel => exact ⟨k + 1, _, _, by omega, by go_num, rfl, rfl, Hsz.out, ht'⟩
        case measure => simp [intOf]; omega
      · obtain rfl : k = n := by omega
        go_wp2_with (go_at_call 99; refine (c_spec_BallotValid lo _ k cap xs _ _ (Sl.drewN h _)).mono ?_; rintro e w' ⟨rfl, d2, rfl⟩)
        go_ret
        exact ⟨ret_str (by rw [ht.out, List.take_of_length_le (by rw [hxl.out]; exact Nat.le_refl _), ballotText, Hok.out]; rfl), _, rfl⟩
  · have hok' : ballotOK xs 5 = false := by simpa using hok
    clear hok
    have Hok := Lib.hid hok'
    by_cases h0 : 0 < n
    · go_enter Tryz.func69, Tryz.ntmps69
      go_wp2
      refine wp_loop_rounds 1 ?_
      rw [rounds_succ]
      go_wp2_with (go_at_call 99; refine (c_spec_BallotValid lo _ n cap xs _ _ h).mono ?_; rintro e w' ⟨rfl, d2, rfl⟩)
      go_ret
      exact ⟨ret_str (by rw [ballotText, Hok.out]; rfl), _, rfl⟩
    · obtain rfl : n = 0 := by omega
      go_enter Tryz.func69, Tryz.ntmps69
      go_wp2
      refine wp_loop_rounds 1 ?_
      rw [rounds_succ]
      go_wp2
      go_ret
      exact ⟨ret_str (by rw [ballotText, Hok.out]; rfl), 0, rfl⟩
end Go.Proofs.YtboobimpoddacaaGreatDoor

namespace Go.Proofs.YtboobimpoddacaaGreatDoor
open Go.RowKit Go.ChangeShapes Go.WideShapes Go.ChangeAt
set_option linter.unusedVariables false

/-- A slice of bytes that came in. -/
def CodeArg (w : World) (A : Option Addr) (len cap : Nat) : Prop :=
  len ≤ cap ∧ cap ≤ maxLen ∧ (0 < len → ∃ b off, A = some ⟨b, off, none⟩ ∧ b < w.heap.size ∧ ∀ j, j < len → ∃ u : Nat, u ≤ 255 ∧ w.cell? ⟨b, off + j, none⟩ = some (.int .u8 (u : Int)))

theorem add_none (b off j : Nat) : (⟨b, off, none⟩ : Addr).add j = ⟨b, off + j, none⟩ := by unfold Addr.add; split <;> simp_all

section
variable {H : Type} {enc : TypeId × Value → H} {P : Program} {w : World} {base : Nat} {spare : Nat → Bool} {held : Bool}

theorem spot_of {a : Addr} {w : World} {v : Value} (h : w.cell? (a.add 0) = some v) : a = ⟨a.block, a.off, none⟩ := by
  have h' : w.cell? a = some v := by simpa [Addr.add] using h
  have hs := World.cell?_spot h'
  cases a
  simp_all

theorem arg_u8 {t e : TypeId} {a : Option Addr} {len cap : Nat} {d : DataW H} {p : List MemPlace} (ht : P.underlying t = some (.slice e)) (he : P.underlying e = some (.int .u8)) (hc : P.cellsOf e = 1)
    (h : DataW.Trod enc P w base spare held t (.slice a len cap) d p) : CodeArg w a len cap := by
  obtain ⟨fuel, hf⟩ := h
  rcases open_ints ht he hc hf with ⟨hcs, _⟩ | ⟨x, l, c, zs, hcs, _, hl, hm, hz, _, hcell, hwz⟩
  · simp [Value.cells] at hcs
    obtain ⟨rfl, rfl, rfl⟩ := hcs
    exact ⟨Nat.le_refl _, Nat.zero_le _, fun h => absurd h (by omega)⟩
  · simp [Value.cells] at hcs
    obtain ⟨rfl, rfl, rfl⟩ := hcs
    have hlz : len ≤ zs.length := by split at hz <;> omega
    refine ⟨hl, hm, fun h0 => ?_⟩
    have hx := spot_of (hcell 0 (by omega))
    refine ⟨x.block, x.off, by rw [← hx], ?_, fun j hj => ?_⟩
    · have := World.block_lt_of_cell? _ _ (hcell 0 (by omega))
      rw [hx] at this
      exact this
    · have hcj := hcell j (by omega)
      rw [hx, add_none] at hcj
      obtain ⟨h1, h2⟩ := bounds_u8 (hwz (zs.getD j 0) (by rw [getD_at _ (by omega)]; exact List.getElem_mem _))
      exact ⟨(zs.getD j 0).toNat, by omega, by rw [hcj, Int.toNat_of_nonneg h1]⟩

theorem arg_ints {t e : TypeId} {a : Option Addr} {len cap : Nat} {d : DataW H} {p : List MemPlace} (ht : P.underlying t = some (.slice e)) (he : P.underlying e = some (.int .i64)) (hc : P.cellsOf e = 1)
    (h : DataW.Trod enc P w base spare held t (.slice a len cap) d p) : ∃ xs : List Int, len ≤ cap ∧ cap ≤ maxLen ∧ (∀ n ∈ xs, (Lit.int .i64 n).wf = true) ∧ Rd w 0 1 a len (xs.map (Value.int .i64)) := by
  obtain ⟨fuel, hf⟩ := h
  rcases open_ints ht he hc hf with ⟨hcs, _⟩ | ⟨x, l, c, zs, hcs, _, hl, hm, hz, _, hcell, hwz⟩
  · simp [Value.cells] at hcs
    obtain ⟨rfl, rfl, rfl⟩ := hcs
    exact ⟨[], Nat.le_refl _, Nat.zero_le _, by simp, Rd.nil _ _ _ _⟩
  · simp [Value.cells] at hcs
    obtain ⟨rfl, rfl, rfl⟩ := hcs
    have hlz : len ≤ zs.length := by split at hz <;> omega
    refine ⟨zs.take len, hl, hm, fun n hn => hwz n (List.mem_of_mem_take hn), by simp; omega, fun h0 => ?_⟩
    have hx := spot_of (hcell 0 (by omega))
    refine ⟨x.block, x.off, by rw [← hx], Nat.zero_le _, ?_, fun j u hu => ?_⟩
    · have := World.block_lt_of_cell? _ _ (hcell 0 (by omega))
      rw [hx] at this
      exact this
    · rw [List.getElem?_map, List.getElem?_take] at hu
      split at hu
      · rename_i hj
        have hcj := hcell j (by omega)
        rw [hx, add_none] at hcj
        rw [hcj, ← hu, List.getElem?_eq_getElem (by omega), getD_at _ (by omega)]
        rfl
      · cases hu

theorem arg_strs {t e : TypeId} {a : Option Addr} {len cap : Nat} {d : DataW H} {p : List MemPlace} (ht : P.underlying t = some (.slice e)) (he : P.underlying e = some .string) (hc : P.cellsOf e = 1)
    (h : DataW.Trod enc P w base spare held t (.slice a len cap) d p) : ∃ xs : List ByteArray, len ≤ cap ∧ cap ≤ maxLen ∧ (∀ s ∈ xs, s.size ≤ maxLen) ∧ Rd w 0 1 a len (xs.map Value.string) := by
  obtain ⟨fuel, hf⟩ := h
  rcases open_strings ht he hc hf with ⟨hcs, _⟩ | ⟨x, l, c, zs, hcs, _, hl, hm, hz, _, hcell, hwz⟩
  · simp [Value.cells] at hcs
    obtain ⟨rfl, rfl, rfl⟩ := hcs
    exact ⟨[], Nat.le_refl _, Nat.zero_le _, by simp, Rd.nil _ _ _ _⟩
  · simp [Value.cells] at hcs
    obtain ⟨rfl, rfl, rfl⟩ := hcs
    have hlz : len ≤ zs.length := by split at hz <;> omega
    refine ⟨zs.take len, hl, hm, fun n hn => hwz n (List.mem_of_mem_take hn), by simp; omega, fun h0 => ?_⟩
    have hx := spot_of (hcell 0 (by omega))
    refine ⟨x.block, x.off, by rw [← hx], Nat.zero_le _, ?_, fun j u hu => ?_⟩
    · have := World.block_lt_of_cell? _ _ (hcell 0 (by omega))
      rw [hx] at this
      exact this
    · rw [List.getElem?_map, List.getElem?_take] at hu
      split at hu
      · rename_i hj
        have hcj := hcell j (by omega)
        rw [hx, add_none] at hcj
        rw [hcj, ← hu, List.getElem?_eq_getElem (by omega), getD_at _ (by omega)]
        rfl
      · cases hu
end
end Go.Proofs.YtboobimpoddacaaGreatDoor

namespace Go.Proofs.YtboobimpoddacaaGreatDoor
open Go.RowKit
set_option linter.unusedVariables false

/-- A new row of cells, not the reader's. -/
def fRow (R t n : Nat) (cs : Array Value) (v : Value) (x : World) : Prop := ∃ g, v = .slice (some ⟨g, 0, none⟩) n n ∧ R < g ∧ Blk x g t cs
/-- A new row of one cell of a kind. -/
def fOne (R t : Nat) (p : Value → Prop) (v : Value) (x : World) : Prop := ∃ g u, v = .slice (some ⟨g, 0, none⟩) 1 1 ∧ R < g ∧ Blk x g t #[u] ∧ p u
def fIs (u v : Value) (_ : World) : Prop := v = u
def fPick (n : Nat) (v : Value) (_ : World) : Prop := ∃ k : Nat, k < n ∧ v = .int .i64 (k : Int)
/-- A place that holds a value of a kind. -/
def fPlace (R : Nat) (p : Value → Prop) (v : Value) (x : World) : Prop := ∃ g k, v = .pointer (some ⟨g, k, none⟩) ∧ R < g ∧ ∃ u, x.cell? ⟨g, k, none⟩ = some u ∧ p u
def fInt (v : Value) (_ : World) : Prop := ∃ n : Int, v = .int .i64 n
def fVal (p : Value → Prop) (v : Value) (_ : World) : Prop := p v

theorem fRow_kept {R t n : Nat} {cs : Array Value} {v : Value} {x y : World} (h : x.grownBy y (some R)) (hv : fRow R t n cs v x) : fRow R t n cs v y := by
  obtain ⟨g, e, hg, hb⟩ := hv
  exact ⟨g, e, hg, hb.grown h (by simp; omega)⟩
theorem fOne_kept {R t : Nat} {p : Value → Prop} {v : Value} {x y : World} (h : x.grownBy y (some R)) (hv : fOne R t p v x) : fOne R t p v y := by
  obtain ⟨g, u, e, hg, hb, hu⟩ := hv
  exact ⟨g, u, e, hg, hb.grown h (by simp; omega), hu⟩
theorem fPlace_kept {R : Nat} {p : Value → Prop} {v : Value} {x y : World} (h : x.grownBy y (some R)) (hv : fPlace R p v x) : fPlace R p v y := by
  obtain ⟨g, k, e, hg, u, hc, hu⟩ := hv
  exact ⟨g, k, e, hg, u, gb_cell h hc (by simp; omega), hu⟩
/-- A cell of a row of cells of a kind. -/
theorem rowCell {x : World} {g t k : Nat} {cs : Array Value} {p : Value → Prop} (hb : Blk x g t cs) (hp : ∀ u ∈ cs.toList, p u) (hk : k < cs.size) : ∃ u, x.cell? ⟨g, k, none⟩ = some u ∧ p u := by
  refine ⟨cs[k], by rw [hb.cell k, Array.getElem?_eq_getElem hk], hp _ (by simp)⟩
end Go.Proofs.YtboobimpoddacaaGreatDoor

namespace Go.Proofs.YtboobimpoddacaaGreatDoor
open Go.RowKit
set_option linter.unusedVariables false

theorem c_l6Open (A : Option Addr) (len cap : Nat) (w : World) (h : CodeArg w A len cap) :
    Calls Tryz.prog 17 #[.slice A len cap] w fun e w' =>
      e = .returned (.pointer (some ⟨w.heap.size, 0, none⟩)) ∧ Rdr w' w.heap.size 0 ∧ w.grownBy w' none ∧ w'.heap.size = w.heap.size + 1 := by
  obtain ⟨hl, hm, hc⟩ := h
  unfold maxLen at hm
  have key : ∀ (n c : Nat), n ≤ len → n ≤ 2000 → Rdr (w.alloc (.cells #[.slice A n c, .int .i64 0] 53)) w.heap.size 0 := by
    intro n c hn h2
    refine ⟨A, n, c, 0, Blk.new _ _ _, Nat.le_refl _, h2, fun h0 => ?_⟩
    obtain ⟨b, off, e, hb, hcell⟩ := hc (by omega)
    refine ⟨b, off, e, hb, fun j hj => ?_⟩
    obtain ⟨u, hu, hcu⟩ := hcell j (by omega)
    exact ⟨u, hu, (World.cell?_alloc_lt _ _ _ hb).trans hcu⟩
  by_cases h2 : len ≤ 2000
  · have h2' : ¬ (2000 < len) := by omega
    go_enter Tryz.func17, Tryz.ntmps17
    go_wp2
    go_ret
    exact ⟨rfl, key _ _ (Nat.le_refl _) h2, gb_alloc (gb_refl _ _) _, by simp⟩
  · have h2' : 2000 < len := by omega
    go_enter Tryz.func17, Tryz.ntmps17
    go_wp2
    go_ret
    exact ⟨rfl, key _ _ (by omega) (Nat.le_refl _), gb_alloc (gb_refl _ _) _, by simp⟩


attribute [local go_sem] flowAct flowOp_def flowUpon

def nodeRow : Array Value := #[.int .i64 (-1), .int .i64 0, .int .i64 9972, .int .i64 9973]
def nodeFacts (R : Nat) : Nat → Value → World → Prop
  | 0 | 5 => fRow R 3 4 nodeRow
  | 1 | 6 => fIs (.pointer (some ⟨R, 0, none⟩))
  | 2 | 7 => fPick 4
  | 3 | 8 => fPlace R (fun u => ∃ n : Int, u = .int .i64 n)
  | 4 | 9 | 10 | 11 => fInt
  | _ => fun _ _ => True

theorem nodeFacts_kept (R : Nat) (n m K : Nat) (x y : World) (h : RT R m K n x y) : ∀ i v, nodeFacts R i v x → nodeFacts R i v y := by
  intro i v hv
  unfold nodeFacts at *
  split at hv
  all_goals first
    | exact hv
    | exact fRow_kept h.1 hv
    | exact fPlace_kept h.1 hv

theorem nodeCell {x : World} {g k : Nat} (hb : Blk x g 3 nodeRow) (hk : k < 4) : ∃ n : Int, x.cell? ⟨g, k, none⟩ = some (.int .i64 n) := by
  have hc := hb.cell k
  match k, hk with
  | 0, _ => exact ⟨_, hc⟩
  | 1, _ => exact ⟨_, hc⟩
  | 2, _ => exact ⟨_, hc⟩
  | 3, _ => exact ⟨_, hc⟩

end Go.Proofs.YtboobimpoddacaaGreatDoor
