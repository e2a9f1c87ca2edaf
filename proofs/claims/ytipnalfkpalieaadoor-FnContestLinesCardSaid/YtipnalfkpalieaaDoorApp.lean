/-
  append of one element to a slice of the call's own, over any program; and the facts on an element's type.
-/
import Derived.Test.YtipnalfkpalieaaDoorMem
import Derived.Maps.AppendAt
import Derived.OwnWalk
import Derived.Laws.MakeOwn
namespace Go.Proofs.YtipnalfkpalieaaDoor
open Go.RowKit
set_option linter.unusedVariables false

/-- Type t is a slice of e; e takes 'size' cells and 'bytes' bytes. -/
structure Elem (P : Program) (t e : TypeId) (size bytes : Nat) (z : Value) : Prop where
  ht : P.underlying t = some (.slice e)
  hi : ∃ i, P.info? e = some i ∧ i.zero = some z ∧ i.size = size ∧ i.bytes = bytes
  hzs : z.cells.size = size
  hsz : 0 < size

section
variable {P : Program} {t e : TypeId} {size bytes : Nat} {z : Value} {ops : Array Oper} {rest : List Oper} {o : Oper} {a : Act} {Q : Exit → Act → World → Prop} {w : World}

theorem run_app (E : Elem P t e size bytes z) (ty : TypeId) (lo n : Nat) (v : Value) (xs : List Value) (hown : w.ownsRow lo e size v n xs) (us : List Value) (hul : us.length = size)
    (hone : ∀ u ∈ us, u.oneCell' = true) (hmax : n + 1 ≤ 9223372036854775807) (hn : (n + 1) * bytes ≤ 140737488355328) (hlo : lo ≤ w.heap.size) :
    ∃ A c w', (Builtin.append_ #[t, t] ty #[v, .slice (some ⟨w.heap.size, 0, none⟩) 1 1]).run P (w.alloc (.cells us.toArray e)) = .ok (.slice A (n + 1) c) w' ∧
      w'.ownsRow lo e size (.slice A (n + 1) c) (n + 1) (xs ++ us) ∧ Below lo w w' ∧ w.grownBy w' v.ownBlock ∧
      ((Value.slice A (n + 1) c).ownBlock = v.ownBlock ∨ ∃ g, (Value.slice A (n + 1) c).ownBlock = some g ∧ w.heap.size ≤ g) := by
  obtain ⟨i, hi, hz, hs, hb⟩ := E.hi
  have hown' := hown.alloc (.cells us.toArray e)
  obtain ⟨v', w', hr, h2, h3, h4, h5⟩ := run_append_own_at (P := P) (w.alloc (.cells us.toArray e)) lo t ty e i z size bytes E.ht hi hz hs hb E.hzs E.hsz v n xs hown' ⟨w.heap.size, 0, none⟩ 1 1 us (by omega)
    (fun j u hu => by
      have hadd : (⟨w.heap.size, 0, none⟩ : Addr).add j = ⟨w.heap.size, j, none⟩ := by unfold Addr.add; split <;> simp_all
      rw [hadd, World.cell?_alloc_new]
      simpa using hu) hone (by unfold maxLen; omega) hn (by simp; omega)
  have hform : ∃ A c, v' = .slice A (n + 1) c := by
    rcases h2.2 with ⟨rfl, h0⟩ | ⟨g, cap, cur, rfl, _⟩
    · omega
    · exact ⟨_, _, rfl⟩
  obtain ⟨A, c, rfl⟩ := hform
  have hg : w.grownBy w' v.ownBlock := by
    have h0 := World.grownBy_alloc w (.cells us.toArray e) v.ownBlock
    exact gb_trans h0 h3
  refine ⟨A, c, w', hr, h2, ⟨hg.os, hg.tape, hg.output, hg.size, fun k hk => hg.block k (by omega) (fun e => ?_)⟩, hg, ?_⟩
  · have := (hown.lt k e.symm).1
    omega
  · rcases h5 with h5 | h5
    · exact .inl h5
    · exact .inr ⟨_, h5, by simp⟩

theorem wpList_app (E : Elem P t e size bytes z) (hgd : o.guard = none) (s x : Operand) (ho : o.op = .call { callee := .builtin .append, args := #[s, x], argTypes := #[t, t] })
    (lo n : Nat) (v : Value) (xs : List Value) (hs : a.eval s = v) (hown : w.ownsRow lo e size v n xs) (us : List Value) (hx : a.eval x = .slice (some ⟨w.heap.size, 0, none⟩) 1 1) (hul : us.length = size)
    (hone : ∀ u ∈ us, u.oneCell' = true) (hmax : n + 1 ≤ 9223372036854775807) (hn : (n + 1) * bytes ≤ 140737488355328) (hlo : lo ≤ w.heap.size)
    (h : ∀ A c w', w'.ownsRow lo e size (.slice A (n + 1) c) (n + 1) (xs ++ us) → Below lo w w' → w.grownBy w' v.ownBlock →
      ((Value.slice A (n + 1) c).ownBlock = v.ownBlock ∨ ∃ g, (Value.slice A (n + 1) c).ownBlock = some g ∧ w.heap.size ≤ g) → wpList P ops Q rest (a.put o.dst (.slice A (n + 1) c)) w') :
    wpList P ops Q (o :: rest) a (w.alloc (.cells us.toArray e)) := by
  refine wpList_plain hgd fun K hK => ?_
  obtain ⟨A, c, w', hr, h2, h3, h4, h5⟩ := run_app (P := P) E o.type lo n v xs hown us hul hone hmax hn hlo
  unfold Oper.wp execOp
  simp only [ho, resolve, invoke, builtin, Sem.run_bind, Sem.run_pure, Result.andThen_ok, List.map_toArray, List.map_cons, List.map_nil, hs, hx, hr]
  exact hK _ _ (h A c w' h2 h3 h4 h5)

/-- The same where the element lies in a block that is known. -/
theorem wpList_appB (E : Elem P t e size bytes z) (hgd : o.guard = none) (s x : Operand) (ho : o.op = .call { callee := .builtin .append, args := #[s, x], argTypes := #[t, t] })
    (lo n : Nat) (v : Value) (xs : List Value) (hs : a.eval s = v) (hown : w.ownsRow lo e size v n xs) (g0 : Nat) (us : List Value) (hx : a.eval x = .slice (some ⟨g0, 0, none⟩) 1 1) (hB : Blk w g0 e us.toArray) (hul : us.length = size)
    (hone : ∀ u ∈ us, u.oneCell' = true) (hmax : n + 1 ≤ 9223372036854775807) (hn : (n + 1) * bytes ≤ 140737488355328) (hlo : lo ≤ w.heap.size)
    (h : ∀ A c w', w'.ownsRow lo e size (.slice A (n + 1) c) (n + 1) (xs ++ us) → Below lo w w' → w.grownBy w' v.ownBlock →
      ((Value.slice A (n + 1) c).ownBlock = v.ownBlock ∨ ∃ g, (Value.slice A (n + 1) c).ownBlock = some g ∧ w.heap.size ≤ g) → wpList P ops Q rest (a.put o.dst (.slice A (n + 1) c)) w') :
    wpList P ops Q (o :: rest) a w := by
  refine wpList_plain hgd fun K hK => ?_
  obtain ⟨i, hi, hz, hsz, hb⟩ := E.hi
  obtain ⟨v', w', hr, h2, h3, h4, h5⟩ := run_append_own_at (P := P) w lo t o.type e i z size bytes E.ht hi hz hsz hb E.hzs E.hsz v n xs hown ⟨g0, 0, none⟩ 1 1 us (by omega)
    (fun j u hu => by
      have hadd : (⟨g0, 0, none⟩ : Addr).add j = ⟨g0, j, none⟩ := by unfold Addr.add; split <;> simp_all
      rw [hadd, hB.cell j]
      simpa using hu) hone (by unfold maxLen; omega) hn hlo
  have hform : ∃ A c, v' = .slice A (n + 1) c := by
    rcases h2.2 with ⟨rfl, h0⟩ | ⟨g, cap, cur, rfl, _⟩
    · omega
    · exact ⟨_, _, rfl⟩
  obtain ⟨A, c, rfl⟩ := hform
  unfold Oper.wp execOp
  simp only [ho, resolve, invoke, builtin, Sem.run_bind, Sem.run_pure, Result.andThen_ok, List.map_toArray, List.map_cons, List.map_nil, hs, hx, hr]
  refine hK _ _ (h A c w' h2 ⟨h3.os, h3.tape, h3.output, h3.size, fun k hk => h3.block k (by omega) (fun e => ?_)⟩ h3 ?_)
  · have := (hown.lt k e.symm).1
    omega
  · rcases h5 with h5 | h5
    · exact .inl h5
    · exact .inr ⟨_, h5, Nat.le_refl _⟩

/-- At a step of a region that draws its order. -/
theorem step_appB {F : Prop} (E : Elem P t e size bytes z) (hgd : o.guard = none) (s x : Operand) (ho : o.op = .call { callee := .builtin .append, args := #[s, x], argTypes := #[t, t] })
    (lo n : Nat) (v : Value) (xs : List Value) (hs : a.eval s = v) (hown : w.ownsRow lo e size v n xs) (g0 : Nat) (us : List Value) (hx : a.eval x = .slice (some ⟨g0, 0, none⟩) 1 1) (hB : Blk w g0 e us.toArray) (hul : us.length = size)
    (hone : ∀ u ∈ us, u.oneCell' = true) (hmax : n + 1 ≤ 9223372036854775807) (hn : (n + 1) * bytes ≤ 140737488355328) (hlo : lo ≤ w.heap.size) {K : Act → World → Prop}
    (h : ∀ A c w', w'.ownsRow lo e size (.slice A (n + 1) c) (n + 1) (xs ++ us) → Below lo w w' → w.grownBy w' v.ownBlock →
      ((Value.slice A (n + 1) c).ownBlock = v.ownBlock ∨ ∃ g, (Value.slice A (n + 1) c).ownBlock = some g ∧ w.heap.size ≤ g) → K (a.put o.dst (.slice A (n + 1) c)) w') :
    if Region.wanted o (yielded ops a.tmps) = true then Oper.wp P o a w K Q else F := by
  have hw : Region.wanted o (yielded ops a.tmps) = true := by simp [Region.wanted, hgd]
  rw [if_pos hw]
  obtain ⟨i, hi, hz, hsz, hb⟩ := E.hi
  obtain ⟨v', w', hr, h2, h3, h4, h5⟩ := run_append_own_at (P := P) w lo t o.type e i z size bytes E.ht hi hz hsz hb E.hzs E.hsz v n xs hown ⟨g0, 0, none⟩ 1 1 us (by omega)
    (fun j u hu => by
      have hadd : (⟨g0, 0, none⟩ : Addr).add j = ⟨g0, j, none⟩ := by unfold Addr.add; split <;> simp_all
      rw [hadd, hB.cell j]
      simpa using hu) hone (by unfold maxLen; omega) hn hlo
  have hform : ∃ A c, v' = .slice A (n + 1) c := by
    rcases h2.2 with ⟨rfl, h0⟩ | ⟨g, cap, cur, rfl, _⟩
    · omega
    · exact ⟨_, _, rfl⟩
  obtain ⟨A, c, rfl⟩ := hform
  unfold Oper.wp execOp
  simp only [ho, resolve, invoke, builtin, Sem.run_bind, Sem.run_pure, Result.andThen_ok, List.map_toArray, List.map_cons, List.map_nil, hs, hx, hr]
  refine h A c w' h2 ⟨h3.os, h3.tape, h3.output, h3.size, fun k hk => h3.block k (by omega) (fun e => ?_)⟩ h3 ?_
  · have := (hown.lt k e.symm).1
    omega
  · rcases h5 with h5 | h5
    · exact .inl h5
    · exact .inr ⟨_, h5, Nat.le_refl _⟩
end

/-- 'make([]T, n)'. -/
theorem run_mk {P : Program} {t e : TypeId} {size bytes : Nat} {z : Value} (E : Elem P t e size bytes z) (n : Nat) (hn : n ≤ 100000000) (hb : bytes ≤ 100) (w : World) :
    (Instr.makeSlice t (.int .i64 (n : Int)) (.int .i64 (n : Int))).run P w = .ok (.slice (some ⟨w.heap.size, 0, none⟩) n n) (w.alloc (.cells (madeCells z.cells (n * size)) e)) := by
  obtain ⟨i, hi, hz, hs, hbb⟩ := E.hi
  have hb' : (i.bytes : Int) * (n : Int) ≤ 281474976710656 := by
    have h1 : i.bytes * n ≤ 100 * 100000000 := Nat.mul_le_mul (by omega) hn
    have h2 : ((i.bytes * n : Nat) : Int) ≤ 281474976710656 := by omega
    rwa [Int.natCast_mul] at h2
  have hr := run_make (P := P) w t e i z E.ht hi hz .i64 .i64 n n (by omega) (by omega) hb' (by omega)
  simp only [Int.toNat_natCast, hs] at hr
  exact hr
theorem own_of_blk {w : World} {lo e size n g : Nat} {cs : Array Value} (h : Blk w g e cs) (hs : cs.size = n * size) (hn : n ≤ 100000000) (hl : lo ≤ g) : w.ownsRow lo e size (.slice (some ⟨g, 0, none⟩) n n) n cs.toList :=
  ⟨by simpa using hs, .inr ⟨g, n, cs, rfl, hl, h, Nat.le_refl _, by unfold maxLen; omega, hs, by rw [List.take_of_length_le (by simp [hs])]⟩⟩
theorem blk_cell {w : World} {g e k : Nat} {cs : Array Value} (h : Blk w g e cs) (hk : k < cs.size) : ∃ u, w.cell? ⟨g, k, none⟩ = some u := ⟨cs[k], by rw [h.cell k, Array.getElem?_eq_getElem hk]⟩

theorem own_nil (w : World) (lo e size : Nat) : w.ownsRow lo e size (.slice none 0 0) 0 [] := World.ownsRow_nil w lo e size
/-- '[]T{}': a new block of no cells. -/
theorem own_empty (w : World) (lo e size : Nat) (h : lo ≤ w.heap.size) : (w.alloc (.cells #[] e)).ownsRow lo e size (.slice (some ⟨w.heap.size, 0, none⟩) 0 0) 0 [] :=
  World.ownsRow_made w #[] 0 h (Nat.zero_le _) (by simp)
theorem own_below {w w' : World} {lo : Nat} {e : TypeId} {size n : Nat} {v : Value} {xs : List Value} (h : w.ownsRow lo e size v n xs) (hg : w.grownBy w' none) : w'.ownsRow lo e size v n xs :=
  h.kept hg (by cases hv : v.ownBlock <;> simp)
theorem own_drew {w : World} {lo : Nat} {e : TypeId} {size n : Nat} {v : Value} {xs : List Value} (h : w.ownsRow lo e size v n xs) : w.drew.ownsRow lo e size v n xs := h
theorem le_alloc_drew {w : World} {o : Obj} {n : Nat} (h : n ≤ w.heap.size) : n ≤ (w.alloc o).drew.heap.size := Nat.le_trans h (by simp)
theorem below_alloc_drew {B : Nat} {w w' : World} {o : Obj} (h : Below B (w.alloc o).drew w') (hB : B ≤ w.heap.size) : Below B w w' := ((Below.refl B w).alloc hB o).drew.trans h
theorem blk_drew {w : World} {g t : Nat} {cs : Array Value} (h : Blk w g t cs) : Blk w.drew g t cs := h
theorem own_drewN {w : World} {lo : Nat} {e : TypeId} {size n : Nat} {v : Value} {xs : List Value} (h : w.ownsRow lo e size v n xs) (m : Nat) : (w.drewN m).ownsRow lo e size v n xs := h
theorem own_kept {w w' : World} {lo : Nat} {e : TypeId} {size n : Nat} {v : Value} {xs : List Value} {row : Option Nat} (h : w.ownsRow lo e size v n xs) (hg : w.grownBy w' row) (hr : ∀ k, row = some k → k < lo ∨ v.ownBlock ≠ some k) : w'.ownsRow lo e size v n xs :=
  h.kept hg (by
    cases hv : v.ownBlock with
    | none => exact .inl rfl
    | some k =>
      refine .inr ?_
      intro e
      have h1 := hr k e.symm
      have h2 := h.lt k hv
      rcases h1 with h1 | h1
      · omega
      · exact h1 hv)
theorem below_gb {B : Nat} {w w' : World} (h : Below B w w') (hB : B = w.heap.size) : w.grownBy w' none := by subst hB; exact gb_of_below h none
theorem below_drewN {B : Nat} {a w : World} (h : Below B a w) (n : Nat) : Below B a (w.drewN n) := ⟨h.os, h.tape, h.output, h.size, h.block⟩
theorem below_gbn {B : Nat} {a w w' : World} (h : Below B a w) (hg : w.grownBy w' none) (hB : B ≤ w.heap.size) : Below B a w' := h.grown hg hB (by simp)
theorem sl_below {w w' : World} {lo size n cap B : Nat} {A : Option Addr} {cs : List Value} (h : Sl w lo size A n cap cs) (hb : Below B w w') (hB : w.heap.size ≤ B) : Sl w' lo size A n cap cs :=
  h.keep0 ⟨hb.os, hb.tape, hb.output, hb.size, fun k hk _ => hb.block k (by omega)⟩
end Go.Proofs.YtipnalfkpalieaaDoor
