/-
  append of all of a slice to a slice of the call's own, over any program; the slice may be nil or empty.
-/
import Derived.Test.YtipnalfkpalieaaDoorApp
namespace Go.Proofs.YtipnalfkpalieaaDoor
open Go.RowKit
set_option linter.unusedVariables false

theorem add_off (b off j : Nat) : (⟨b, off, none⟩ : Addr).add j = ⟨b, off + j, none⟩ := by
  unfold Addr.add
  split
  · simp_all
  · rfl
theorem run_app_none {P : Program} {w : World} (base : Nat) (t ty e : TypeId) (i : TypeInfo) (size c0 : Nat) (ht : P.underlying t = some (.slice e)) (hi : P.info? e = some i)
    (v : Value) (n : Nat) (xs : List Value) (hown : w.ownsRow base e size v n xs) :
    (Builtin.append_ #[t, t] ty #[v, .slice none 0 c0]).run P w = .ok v w := by
  rcases hown.2 with ⟨rfl, rfl⟩ | ⟨g, cap, cur, rfl, _, _, hnc, _⟩
  · simp [Builtin.append_, run_underlying ht, sizeOf, typeInfo, hi, Builtin.lenOf, Builtin.firstCells]
  · simp [Builtin.append_, run_underlying ht, sizeOf, typeInfo, hi, Builtin.lenOf, Builtin.firstCells, hnc, storeCells]
section
variable {P : Program} {t e : TypeId} {size bytes : Nat} {z : Value} {ops : Array Oper} {rest : List Oper} {o : Oper} {a : Act} {Q : Exit → Act → World → Prop} {w : World}
theorem run_appAll (E : Elem P t e size bytes z) (ty : TypeId) {lo lo2 n m c0 : Nat} {v : Value} {xs us : List Value} {A : Option Addr} (hown : w.ownsRow lo e size v n xs) (hs : Sl w lo2 size A m c0 us)
    (hone : ∀ u ∈ us, u.oneCell' = true) (hmax : n + m ≤ 9223372036854775807) (hn : (n + m) * bytes ≤ 140737488355328) (hlo : lo ≤ w.heap.size) :
    ∃ B c w', (Builtin.append_ #[t, t] ty #[v, .slice A m c0]).run P w = .ok (.slice B (n + m) c) w' ∧ w'.ownsRow lo e size (.slice B (n + m) c) (n + m) (xs ++ us) ∧ Below lo w w' ∧ w.grownBy w' v.ownBlock ∧
      ((Value.slice B (n + m) c).ownBlock = v.ownBlock ∨ ∃ g, (Value.slice B (n + m) c).ownBlock = some g ∧ w.heap.size ≤ g) := by
  obtain ⟨i, hi, hz, hsz, hb⟩ := E.hi
  have hvs : ∃ B c, v = .slice B n c := by
    rcases hown.2 with ⟨rfl, rfl⟩ | ⟨g, cap, cur, rfl, _⟩
    · exact ⟨_, _, rfl⟩
    · exact ⟨_, _, rfl⟩
  cases A with
  | none =>
    have hm : m = 0 := by
      rcases Nat.eq_zero_or_pos m with h | h
      · exact h
      · obtain ⟨b, off, h1, _⟩ := hs.2.2.2 h
        cases h1
    subst hm
    have hu : us = [] := List.eq_nil_of_length_eq_zero (by have := hs.2.2.1; omega)
    subst hu
    obtain ⟨B, c, rfl⟩ := hvs
    exact ⟨B, c, w, run_app_none (P := P) lo t ty e i size c0 E.ht hi _ n xs hown, by simpa using hown, Below.refl _ _, gb_refl _ _, .inl rfl⟩
  | some a0 =>
    obtain ⟨v', w', hr, h2, h3, h4, h5⟩ := run_append_own_at (P := P) w lo t ty e i z size bytes E.ht hi hz hsz hb E.hzs E.hsz v n xs hown a0 m c0 us hs.2.2.1
      (fun j u hu => by
        have hjl := (List.getElem?_eq_some_iff.1 hu).1
        have hl := hs.2.2.1
        have hm0 : 0 < m := by
          rcases Nat.eq_zero_or_pos m with h | h
          · subst h; omega
          · exact h
        obtain ⟨b, off, h1, _, _, hc⟩ := hs.2.2.2 hm0
        injection h1 with h1
        subst h1
        rw [add_off]
        exact hc j u hu) hone (by unfold maxLen; omega) hn hlo
    have hform : ∃ B c, v' = .slice B (n + m) c := by
      rcases h2.2 with ⟨rfl, h0⟩ | ⟨g, cap, cur, rfl, _⟩
      · exact ⟨none, 0, by rw [h0]⟩
      · exact ⟨_, _, rfl⟩
    obtain ⟨B, c, rfl⟩ := hform
    refine ⟨B, c, w', hr, h2, ⟨h3.os, h3.tape, h3.output, h3.size, fun k hk => h3.block k (by omega) (fun e => ?_)⟩, h3, ?_⟩
    · have := (hown.lt k e.symm).1
      omega
    · rcases h5 with h5 | h5
      · exact .inl h5
      · exact .inr ⟨_, h5, Nat.le_refl _⟩
theorem wpList_appAll (E : Elem P t e size bytes z) (hgd : o.guard = none) (s x : Operand) (ho : o.op = .call { callee := .builtin .append, args := #[s, x], argTypes := #[t, t] })
    (lo lo2 n m c0 : Nat) (v : Value) (xs us : List Value) (A : Option Addr) (hs : a.eval s = v) (hown : w.ownsRow lo e size v n xs) (hx : a.eval x = .slice A m c0) (hsl : Sl w lo2 size A m c0 us)
    (hone : ∀ u ∈ us, u.oneCell' = true) (hmax : n + m ≤ 9223372036854775807) (hn : (n + m) * bytes ≤ 140737488355328) (hlo : lo ≤ w.heap.size)
    (h : ∀ B c w', w'.ownsRow lo e size (.slice B (n + m) c) (n + m) (xs ++ us) → Below lo w w' → w.grownBy w' v.ownBlock →
      ((Value.slice B (n + m) c).ownBlock = v.ownBlock ∨ ∃ g, (Value.slice B (n + m) c).ownBlock = some g ∧ w.heap.size ≤ g) → wpList P ops Q rest (a.put o.dst (.slice B (n + m) c)) w') :
    wpList P ops Q (o :: rest) a w := by
  refine wpList_plain hgd fun K hK => ?_
  obtain ⟨B, c, w', hr, h2, h3, h4, h5⟩ := run_appAll (P := P) E o.type hown hsl hone hmax hn hlo
  unfold Oper.wp execOp
  simp only [ho, resolve, invoke, builtin, Sem.run_bind, Sem.run_pure, Result.andThen_ok, List.map_toArray, List.map_cons, List.map_nil, hs, hx, hr]
  exact hK _ _ (h B c w' h2 h3 h4 h5)
end
end Go.Proofs.YtipnalfkpalieaaDoor
