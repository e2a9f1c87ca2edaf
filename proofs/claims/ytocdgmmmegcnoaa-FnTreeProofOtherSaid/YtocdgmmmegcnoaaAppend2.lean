/-
  append beside other steps whose order is drawn: what each step keeps of the rows of ints (KP), and append told by its blocks.
-/
import Derived.Test.YtocdgmmmegcnoaaTo
import Derived.Laws.Append
import Derived.Test.YtocdgmmmegcnoaaFlow
namespace Go.Proofs.Ytocdgmmmegcnoaa
open Go.RowKit
set_option linter.unusedVariables false

/-- Every row of ints has its size and its first M cells; its cell m is as it was, or holds 1. -/
def KP (B M m : Nat) (x y : World) : Prop :=
  Below B x y ∧ ∀ (g : Nat) (cur : Array Value), x.heap[g]? = some (.cells cur 3 (0, 0)) →
    ∃ cur' : Array Value, y.heap[g]? = some (.cells cur' 3 (0, 0)) ∧ cur'.size = cur.size ∧ (∀ j, j < M → cur'[j]? = cur[j]?) ∧ (cur'[m]? = cur[m]? ∨ cur'[m]? = some (.int .i64 1))
theorem KP.of_grown {B M m : Nat} {x y : World} (h : x.grownBy y none) (hB : B ≤ x.heap.size) : KP B M m x y := by
  refine ⟨⟨h.os, h.tape, h.output, h.size, fun k hk => h.block k (by omega) (by simp)⟩, fun g cur hg => ?_⟩
  have hlt : g < x.heap.size := by
    rcases Nat.lt_or_ge g x.heap.size with hlt | hge
    · exact hlt
    · rw [Array.getElem?_eq_none hge] at hg; cases hg
  exact ⟨cur, (h.block g hlt (by simp)).trans hg, rfl, fun _ _ => rfl, .inl rfl⟩

/-- A row of ints told by its block: its first n cells. -/
def RowB (x : World) (B : Nat) (v : Value) (n c : Nat) (xs : List Int) : Prop :=
  ∃ g cur, v = .slice (some ⟨g, 0, none⟩) n c ∧ B ≤ g ∧ x.heap[g]? = some (.cells cur 3 (0, 0)) ∧ cur.size = c ∧ n ≤ c ∧ c ≤ maxLen ∧ xs.length = n ∧ ∀ j, j < n → cur[j]? = (xs.map (Value.int .i64))[j]?
theorem RowB.keep {x y : World} {B M m n c : Nat} {v : Value} {xs : List Int} (h : RowB x B v n c xs) (hk : KP B M m x y) (hn : n ≤ M) : RowB y B v n c xs := by
  obtain ⟨g, cur, rfl, hg, hb, hs, hc, hm, hl, hj⟩ := h
  obtain ⟨cur', hb', hs', hj', _⟩ := hk.2 g cur hb
  exact ⟨g, cur', rfl, hg, hb', by omega, hc, hm, hl, fun j hlt => by rw [hj' j (by omega)]; exact hj j hlt⟩
/-- The row with 1 behind it. -/
theorem RowB.keep1 {x y : World} {B M m c : Nat} {v : Value} {xs : List Int} (h : RowB x B v (m + 1) c (xs ++ [1])) (hxl : xs.length = m) (hk : KP B M m x y) (hn : m ≤ M) : RowB y B v (m + 1) c (xs ++ [1]) := by
  obtain ⟨g, cur, rfl, hg, hb, hs, hc, hm, hl, hj⟩ := h
  obtain ⟨cur', hb', hs', hj', h1⟩ := hk.2 g cur hb
  refine ⟨g, cur', rfl, hg, hb', by omega, hc, hm, hl, fun j hlt => ?_⟩
  by_cases hjm : j < m
  · rw [hj' j (by omega)]; exact hj j hlt
  · obtain rfl : j = m := by omega
    have h0 := hj j hlt
    rcases h1 with h1 | h1
    · rw [h1]; exact h0
    · rw [h1, List.getElem?_map, List.getElem?_append_right (by omega), hxl, Nat.sub_self]; rfl
theorem RowB.ints {x : World} {B n c : Nat} {A : Option Addr} {xs : List Int} (h : RowB x B (.slice A n c) n c xs) : Ints x B A n c xs := by
  obtain ⟨g, cur, he, hg, hb, hs, hc, hm, hl, hj⟩ := h
  injection he with he
  subst he
  refine ⟨hc, hm, by simp [hl], fun hn => ⟨g, 0, rfl, hg, Blk.lt hb, fun j u hu => ?_⟩⟩
  have hjl : j < n := by have := (List.getElem?_eq_some_iff.1 hu).1; simp [hl] at this; exact this
  rw [Nat.zero_add, Blk.cell hb j, hj j hjl]
  exact hu

theorem RowB.cells {x : World} {B n c g : Nat} {xs : List Int} (h : RowB x B (.slice (some ⟨g, 0, none⟩) n c) n c xs) : ∀ j u, (xs.map (Value.int .i64))[j]? = some u → x.cell? ((⟨g, 0, none⟩ : Addr).add j) = some u := by
  obtain ⟨g', cur, he, hg, hb, hs, hc, hm, hl, hj⟩ := h
  injection he with he
  injection he with he
  injection he with he
  subst he
  intro j u hu
  have hjl : j < n := by have := (List.getElem?_eq_some_iff.1 hu).1; simp [hl] at this; exact this
  have hadd : (⟨g, 0, none⟩ : Addr).add j = ⟨g, j, none⟩ := by unfold Addr.add; split <;> simp_all
  rw [hadd, Blk.cell hb j, hj j hjl]
  exact hu

/-- append that must grow. -/
theorem rowB_grow {x : World} {B n c g k c0 : Nat} {xs us : List Int} {a : Addr} (h : RowB x B (.slice (some ⟨g, 0, none⟩) n c) n c xs) (hB : B ≤ x.heap.size) (hul : us.length = k)
    (hus : ∀ j u, (us.map (Value.int .i64))[j]? = some u → x.cell? (a.add j) = some u) (hg : c < n + k) (hsmall : n + k ≤ 1000) (ty : TypeId) :
    ∃ c' y, (Builtin.append_ #[32, 32] ty #[.slice (some ⟨g, 0, none⟩) n c, .slice (some a) k c0]).run Try.prog x = .ok (.slice (some ⟨x.heap.size, 0, none⟩) (n + k) c') y ∧ x.grownBy y none ∧ RowB y B (.slice (some ⟨x.heap.size, 0, none⟩) (n + k) c') (n + k) c' (xs ++ us) := by
  have E := intE
  obtain ⟨i, hi, hz, hs1, hb⟩ := E.hi
  have hcells := h.cells
  obtain ⟨g', cur, he, hg0, hbk, hs, hc, hm, hl, hj⟩ := h
  have hge := grownCap_ge x (n + k) c 3
  have hcm : grownCap x (n + k) c 3 ≤ maxLen := grownCap_le_maxLen x (n + k) c 3 (by unfold maxLen; omega)
  have hr := run_append_grow (P := Try.prog) x 32 ty 3 i _ E.ht hi hz ⟨g, 0, none⟩ n c (xs.map (Value.int .i64)) (by simp [hl, hs1]) hcells a k c0 (us.map (Value.int .i64)) (by simp [hul, hs1]) hus hg (by omega) (growslice_fits (by omega) (by rw [hb]; omega))
  refine ⟨_, _, hr, ⟨rfl, rfl, rfl, by simp, fun k hk _ => Below.heap_alloc x.drew _ k hk⟩, x.heap.size, _, rfl, hB, heap_alloc_new x.drew _, ?_, hge, hcm, by simp [hl, hul], fun j hjl => ?_⟩
  · simp only [Array.size_append, List.size_toArray, size_zeroCells, List.length_map, hl, hul]
    have : (Value.int .i64 0).cells.size = 1 := rfl
    rw [this]
    omega
  · rw [List.map_append, ← Array.getElem?_toList, Array.toList_append, Array.toList_append, List.getElem?_append_left (by simp [hl, hul]; omega)]

/-- append of 1 in place. -/
theorem rowB_room {x : World} {B m c g c0 M : Nat} {xs : List Int} {a : Addr} (h : RowB x B (.slice (some ⟨g, 0, none⟩) m c) m c xs) (hB : B ≤ x.heap.size)
    (hus : x.cell? (a.add 0) = some (.int .i64 1)) (hg : m + 1 ≤ c) (hM : M ≤ m) (ty : TypeId) :
    ∃ y, (Builtin.append_ #[32, 32] ty #[.slice (some ⟨g, 0, none⟩) m c, .slice (some a) 1 c0]).run Try.prog x = .ok (.slice (some ⟨g, 0, none⟩) (m + 1) c) y ∧ KP B M m x y ∧ RowB y B (.slice (some ⟨g, 0, none⟩) (m + 1) c) (m + 1) c (xs ++ [1]) := by
  have E := intE
  obtain ⟨i, hi, hz, hs1, hb⟩ := E.hi
  obtain ⟨g', cur, he, hg0, hbk, hs, hc, hm, hl, hj⟩ := h
  injection he with he
  injection he with he
  injection he with he
  subst he
  have hr := run_append_room (P := Try.prog) x 32 ty 3 i E.ht hi g m c cur hbk a 1 c0 [Value.int .i64 1] (by simp [hs1]) (by
    intro j u hu
    have : j = 0 := by have := (List.getElem?_eq_some_iff.1 hu).1; simpa using this
    subst this
    simp at hu
    subst hu
    exact hus) (by simp [Value.oneCell']) hg (by simp [hs1, hs]; omega)
  rw [hs1, Nat.mul_one] at hr
  have hnew := setRow_heap x g cur (cur.toList.take m ++ [Value.int .i64 1] ++ cur.toList.drop (m + 1)).toArray 3 (0, 0) hbk
  have hlen : (cur.toList.take m ++ [Value.int .i64 1] ++ cur.toList.drop (m + 1)).length = c := by simp [hs]; omega
  have hlo : ∀ j, j < m → (cur.toList.take m ++ [Value.int .i64 1] ++ cur.toList.drop (m + 1)).toArray[j]? = cur[j]? := by
    intro j hjm
    rw [← Array.getElem?_toList, List.append_assoc, List.getElem?_append_left (by simp [hs]; omega), List.getElem?_take, if_pos hjm, Array.getElem?_toList]
  have hat : (cur.toList.take m ++ [Value.int .i64 1] ++ cur.toList.drop (m + 1)).toArray[m]? = some (.int .i64 1) := by
    rw [← Array.getElem?_toList, List.append_assoc, List.getElem?_append_right (by simp [hs]; omega)]
    simp [hs, Nat.min_eq_left (show m ≤ c by omega)]
  refine ⟨_, hr, ⟨⟨rfl, rfl, rfl, by simp, fun k hk => setRow_other x g k _ (by omega)⟩, fun g1 cur1 h1 => ?_⟩, g, (cur.toList.take m ++ [Value.int .i64 1] ++ cur.toList.drop (m + 1)).toArray, rfl, hg0, hnew, by rw [List.size_toArray]; exact hlen, hg, hm, by simp [hl], fun j hjl => ?_⟩
  · by_cases hgg : g1 = g
    · subst hgg
      rw [hbk] at h1
      injection h1 with h1
      injection h1 with h1
      subst h1
      exact ⟨_, hnew, by rw [List.size_toArray, hlen, hs], fun j hjM => hlo j (by omega), .inr hat⟩
    · exact ⟨cur1, (setRow_other x g g1 _ hgg).trans h1, rfl, fun _ _ => rfl, .inl rfl⟩
  · by_cases hjm : j < m
    · rw [hlo j hjm, hj j hjm, List.map_append, List.getElem?_append_left (by simp [hl]; exact hjm)]
    · obtain rfl : j = m := by omega
      rw [hat, List.map_append, List.getElem?_append_right (by simp [hl])]
      simp [hl]

/-- An append in a region that draws its order. -/
theorem flowOp_app {P : Program} {ops : Array Oper} {o : Oper} {a : Act} {w w' : World} {F : Value → World → Prop} {t : TypeId} {v u r : Value} (hw : Region.wanted o (yielded ops a.tmps) = true) (s x : Operand)
    (ho : o.op = .call { callee := .builtin .append, args := #[s, x], argTypes := #[t, t] }) (hs : a.eval s = v) (hx : a.eval x = u) (hr : (Builtin.append_ #[t, t] o.type #[v, u]).run P w = .ok r w') (h : F r w') : flowOp P ops o a w F := by
  rw [flowOp_def, if_pos hw]
  unfold execOp
  simp only [ho, resolve, invoke, builtin, Sem.run_bind, Sem.run_pure, Result.andThen_ok, List.map_toArray, List.map_cons, List.map_nil, hs, hx, hr]
  exact h

/-- append of nothing to a row of no cells. -/
theorem rowB_zero {x : World} {B M m c0 lo : Nat} {A : Option Addr} {v : Value} (h : RowB x B v 0 0 []) (hB : B ≤ x.heap.size) (ho : A = none → c0 = 0) (ty : TypeId) :
    ∃ y, (Builtin.append_ #[32, 32] ty #[v, .slice A 0 c0]).run Try.prog x = .ok v y ∧ KP B M m x y ∧ RowB y B v 0 0 [] := by
  have E := intE
  obtain ⟨i, hi, hz, hs1, hb⟩ := E.hi
  obtain ⟨g, cur, rfl, hg0, hbk, hs, hc, hm, hl, hj⟩ := h
  have hown : x.ownsRow B 3 1 (.slice (some ⟨g, 0, none⟩) 0 0) 0 [] := ⟨rfl, .inr ⟨g, 0, cur, rfl, hg0, hbk, Nat.le_refl _, Nat.zero_le _, by omega, by simp⟩⟩
  cases A with
  | none =>
    rw [ho rfl]
    exact ⟨x, run_append_owned_none (P := Try.prog) x B 32 ty 3 i 1 E.ht hi _ 0 [] hown, KP.of_grown (gb_refl _ _) hB, g, cur, rfl, hg0, hbk, hs, hc, hm, hl, hj⟩
  | some a =>
    have hr := run_append_room (P := Try.prog) x 32 ty 3 i E.ht hi g 0 0 cur hbk a 0 c0 [] (by simp) (by simp) (by simp) (Nat.le_refl _) (by simp)
    have hcur : cur = #[] := by cases cur; simp_all
    subst hcur
    have hnew := setRow_heap x g #[] #[] 3 (0, 0) hbk
    refine ⟨_, hr, ⟨⟨rfl, rfl, rfl, by simp, fun k hk => setRow_other x g k _ (by omega)⟩, fun g1 cur1 h1 => ?_⟩, g, #[], rfl, hg0, by simpa using hnew, rfl, Nat.le_refl _, hm, rfl, fun j hj => absurd hj (by omega)⟩
    by_cases hgg : g1 = g
    · subst hgg
      rw [hbk] at h1
      injection h1 with h1
      injection h1 with h1
      subst h1
      exact ⟨#[], by simpa using hnew, rfl, fun _ _ => rfl, .inl rfl⟩
    · exact ⟨cur1, (setRow_other x g g1 _ hgg).trans h1, rfl, fun _ _ => rfl, .inl rfl⟩
end Go.Proofs.Ytocdgmmmegcnoaa
