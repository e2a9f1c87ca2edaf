/-
  A chain of appends beside other steps whose order is drawn, over any program: every row that the chain makes is the beginning of one list.
-/
import Derived.Test.YtipnalfkpalieaaDoorFlow
import Derived.Test.YtipnalfkpalieaaDoorAppAll
import Derived.Laws.Append
import Derived.Laws.Tables
namespace Go.Proofs.YtipnalfkpalieaaDoor
open Go.RowKit
set_option linter.unusedVariables false

/-- Rows of a kind keep their size, their cells are as they were or those of 'fin'; rows of one element at most stay as they are. -/
def KF (B : Nat) (t : TypeId) (size : Nat) (fin : List Value) (x y : World) : Prop :=
  Below B x y ∧ ∀ (g : Nat) (cur : Array Value), B ≤ g → x.heap[g]? = some (.cells cur t (0, 0)) →
    ∃ cur' : Array Value, y.heap[g]? = some (.cells cur' t (0, 0)) ∧ cur'.size = cur.size ∧ (cur.size ≤ size → cur' = cur) ∧ ∀ (j : Nat), cur'[j]? = cur[j]? ∨ cur'[j]? = fin[j]?
/-- A row that is the beginning of 'fin'. -/
def RowF (x : World) (B : Nat) (t : TypeId) (size : Nat) (fin : List Value) (v : Value) (n c : Nat) : Prop :=
  ∃ g cur, v = .slice (some ⟨g, 0, none⟩) n c ∧ B ≤ g ∧ x.heap[g]? = some (.cells cur t (0, 0)) ∧ cur.size = c * size ∧ n ≤ c ∧ c ≤ maxLen ∧ (n = 0 → c = 0) ∧ ∀ j, j < n * size → cur[j]? = fin[j]?
/-- A row of one element. -/
def RowO (x : World) (B : Nat) (t : TypeId) (us : List Value) (v : Value) : Prop :=
  ∃ g, v = .slice (some ⟨g, 0, none⟩) 1 1 ∧ B ≤ g ∧ x.heap[g]? = some (.cells us.toArray t (0, 0))
section
variable {B : Nat} {t : TypeId} {size : Nat} {fin us : List Value} {x y : World} {v : Value} {n c : Nat}
theorem KF.of_gb (h : x.grownBy y none) (hB : B ≤ x.heap.size) : KF B t size fin x y := by
  refine ⟨⟨h.os, h.tape, h.output, h.size, fun k hk => h.block k (by omega) (by simp)⟩, fun g cur _ hg => ?_⟩
  have hlt : g < x.heap.size := Blk.lt hg
  exact ⟨cur, (h.block g hlt (by simp)).trans hg, rfl, fun _ => rfl, fun _ => .inl rfl⟩
theorem RowF.keep (h : RowF x B t size fin v n c) (hk : KF B t size fin x y) : RowF y B t size fin v n c := by
  obtain ⟨g, cur, rfl, hg, hb, hs, hc, hm, h0, hj⟩ := h
  obtain ⟨cur', hb', hs', _, hj'⟩ := hk.2 g cur hg hb
  refine ⟨g, cur', rfl, hg, hb', by omega, hc, hm, h0, fun j hlt => ?_⟩
  rcases hj' j with h1 | h1
  · rw [h1]; exact hj j hlt
  · exact h1
theorem RowO.keep (h : RowO x B t us v) (hul : us.length ≤ size) (hk : KF B t size fin x y) : RowO y B t us v := by
  obtain ⟨g, rfl, hg, hb⟩ := h
  obtain ⟨cur', hb', _, hsame, _⟩ := hk.2 g us.toArray hg hb
  rw [hsame (by simpa using hul)] at hb'
  exact ⟨g, rfl, hg, hb'⟩
theorem RowF.empty (x : World) (hB : B ≤ x.heap.size) : RowF (x.alloc (.cells #[] t)) B t size fin (.slice (some ⟨x.heap.size, 0, none⟩) 0 0) 0 0 :=
  ⟨x.heap.size, #[], rfl, hB, heap_alloc_new x _, by simp, Nat.le_refl _, Nat.zero_le _, fun _ => rfl, fun j hj => absurd hj (by omega)⟩
theorem RowO.new (x : World) (hB : B ≤ x.heap.size) (us : List Value) : RowO (x.alloc (.cells us.toArray t)) B t us (.slice (some ⟨x.heap.size, 0, none⟩) 1 1) := ⟨x.heap.size, rfl, hB, heap_alloc_new x _⟩
theorem RowF.own (h : RowF x B t size fin v n c) (hf : fin.length = n * size) : ∃ g, v = .slice (some ⟨g, 0, none⟩) n c ∧ x.ownsRow B t size (.slice (some ⟨g, 0, none⟩) n c) n fin := by
  obtain ⟨g, cur, rfl, hg, hb, hs, hc, hm, h0, hj⟩ := h
  refine ⟨g, rfl, hf, .inr ⟨g, c, cur, rfl, hg, hb, hc, hm, hs, ?_⟩⟩
  have hle : n * size ≤ c * size := Nat.mul_le_mul_right _ hc
  apply List.ext_getElem?
  intro j
  by_cases hlt : j < n * size
  · rw [List.getElem?_take, if_pos hlt, Array.getElem?_toList]
    exact hj j hlt
  · rw [List.getElem?_eq_none (by simp; omega), List.getElem?_eq_none (by omega)]

theorem chain_app {P : Program} {t' : TypeId} {bytes : Nat} {z : Value} (E : Elem P t' t size bytes z) (h : RowF x B t size fin v n c) (hB : B ≤ x.heap.size) {A : Option Addr} {m c0 : Nat} (hA : A = none → m = 0) (hul : us.length = m * size)
    (hus : ∀ a, A = some a → ∀ j u, us[j]? = some u → x.cell? (a.add j) = some u) (hone : ∀ u ∈ us, u.oneCell' = true) (hfin : ∀ j, j < m * size → fin[n * size + j]? = us[j]?) (hmax : n + m ≤ 9223372036854775807) (hbytes : (n + m) * bytes ≤ 140737488355328) (ty : TypeId) :
    ∃ v' c' y, (Builtin.append_ #[t', t'] ty #[v, .slice A m c0]).run P x = .ok v' y ∧ KF B t size fin x y ∧ RowF y B t size fin v' (n + m) c' := by
  obtain ⟨i, hi, hz, hs1, hb⟩ := E.hi
  obtain ⟨g, cur, rfl, hg, hbk, hs, hc, hm, h0, hj⟩ := h
  have hown : x.ownsRow B t size (.slice (some ⟨g, 0, none⟩) n c) n (cur.toList.take (n * size)) :=
    ⟨by have : n * size ≤ c * size := Nat.mul_le_mul_right _ hc
        rw [List.length_take, Array.length_toList, hs]; omega, .inr ⟨g, c, cur, rfl, hg, hbk, hc, hm, hs, rfl⟩⟩
  have hcs : n * size ≤ c * size := Nat.mul_le_mul_right _ hc
  cases A with
  | none =>
    have hm0 := hA rfl
    subst hm0
    exact ⟨_, c, x, run_app_none (P := P) B t' ty t i size c0 E.ht hi _ n _ hown, KF.of_gb (gb_refl _ _) hB, g, cur, rfl, hg, hbk, hs, hc, hm, h0, hj⟩
  | some a =>
    have hus := hus a rfl
    by_cases hroom : n + m ≤ c
    · have hms : m * size + n * size ≤ c * size := by rw [← Nat.add_mul]; exact Nat.mul_le_mul_right _ (by omega)
      have hr := run_append_room (P := P) x t' ty t i E.ht hi g n c cur hbk a m c0 us (by rw [hs1]; exact hul) hus hone hroom (by rw [hs1, hul, hs]; omega)
      rw [hs1] at hr
      obtain ⟨new, hnew⟩ : ∃ new, (cur.toList.take (n * size) ++ us ++ cur.toList.drop (n * size + us.length)).toArray = new := ⟨_, rfl⟩
      rw [hnew] at hr
      have hns : new.size = c * size := by
        rw [← hnew, List.size_toArray, List.length_append, List.length_append, List.length_take, List.length_drop, Array.length_toList, hs, hul]
        omega
      have hat : ∀ (j : Nat), new[j]? = cur[j]? ∨ new[j]? = fin[j]? := by
        intro j
        rw [← hnew, ← Array.getElem?_toList, List.append_assoc]
        have hlt : (cur.toList.take (n * size)).length = n * size := by rw [List.length_take, Array.length_toList, hs]; omega
        by_cases h1 : j < n * size
        · left
          rw [List.getElem?_append_left (by omega), List.getElem?_take, if_pos h1, Array.getElem?_toList]
        · rw [List.getElem?_append_right (by omega), hlt]
          by_cases h2 : j - n * size < m * size
          · right
            rw [List.getElem?_append_left (by omega), ← hfin _ h2, show n * size + (j - n * size) = j from by omega]
          · left
            rw [List.getElem?_append_right (by omega), List.getElem?_drop, hul, show n * size + m * size + (j - n * size - m * size) = j from by omega, Array.getElem?_toList]
      have hpre : ∀ (j : Nat), j < (n + m) * size → new[j]? = fin[j]? := by
        intro j hjl
        rw [Nat.add_mul] at hjl
        rw [← hnew, ← Array.getElem?_toList, List.append_assoc]
        have hlt : (cur.toList.take (n * size)).length = n * size := by rw [List.length_take, Array.length_toList, hs]; omega
        by_cases h1 : j < n * size
        · rw [List.getElem?_append_left (by omega), List.getElem?_take, if_pos h1, Array.getElem?_toList]
          exact hj j h1
        · rw [List.getElem?_append_right (by omega), hlt, List.getElem?_append_left (by omega), ← hfin _ (by omega), show n * size + (j - n * size) = j from by omega]
      have hh := setRow_heap x g cur new t (0, 0) hbk
      refine ⟨_, c, _, hr, ⟨⟨rfl, rfl, rfl, by simp [World.setRow], fun k hk => setRow_other x g k _ (by omega)⟩, fun g1 cur1 hg1 h1 => ?_⟩, g, new, rfl, hg, hh, hns, hroom, hm, fun e => h0 (by omega), hpre⟩
      by_cases hgg : g1 = g
      · subst hgg
        rw [hbk] at h1
        injection h1 with h1
        injection h1 with h1
        subst h1
        refine ⟨new, hh, by omega, fun hsm => ?_, hat⟩
        rcases Nat.eq_zero_or_pos m with hm0 | hm0
        · subst hm0
          apply Array.ext_getElem?
          intro j
          have hu0 : us = [] := List.eq_nil_of_length_eq_zero (by omega)
          rw [← hnew, hu0]
          simp
        · exfalso
          rcases Nat.eq_zero_or_pos n with hn0 | hn0
          · have := h0 hn0; omega
          · have h2 : 2 * size ≤ c * size := Nat.mul_le_mul_right _ (by omega)
            have := E.hsz
            omega
      · exact ⟨cur1, (setRow_other x g g1 _ hgg).trans h1, rfl, fun _ => rfl, fun _ => .inl rfl⟩
    · have hge := grownCap_ge x (n + m) c t
      have hcm : grownCap x (n + m) c t ≤ maxLen := grownCap_le_maxLen x (n + m) c t (by unfold maxLen; omega)
      have hr := run_append_grow (P := P) x t' ty t i _ E.ht hi hz ⟨g, 0, none⟩ n c (cur.toList.take (n * size)) (by rw [hs1, List.length_take, Array.length_toList, hs]; omega) (by
        intro j u hu
        rw [List.getElem?_take] at hu
        split at hu
        · have hadd : (⟨g, 0, none⟩ : Addr).add j = ⟨g, j, none⟩ := by unfold Addr.add; split <;> simp_all
          rw [hadd, Blk.cell hbk j, ← Array.getElem?_toList]
          exact hu
        · cases hu) a m c0 us (by rw [hs1]; exact hul) hus (by omega) (by omega) (growslice_fits (by omega) (by rw [hb]; exact hbytes))
      refine ⟨_, _, _, hr, KF.of_gb ⟨rfl, rfl, rfl, by simp, fun k hk _ => Below.heap_alloc x.drew _ k hk⟩ hB, x.heap.size, _, rfl, hB, heap_alloc_new x.drew _, ?_, hge, hcm, fun e => absurd e (by omega), fun j hjl => ?_⟩
      · simp only [Array.size_append, List.size_toArray, size_zeroCells, E.hzs, hul]
        have h1 : (cur.toList.take (n * size)).length = n * size := by rw [List.length_take, Array.length_toList, hs]; omega
        rw [h1]
        have h2 := Nat.add_mul (n + m) (grownCap x (n + m) c t - (n + m)) size
        rw [show n + m + (grownCap x (n + m) c t - (n + m)) = grownCap x (n + m) c t from by omega, Nat.add_mul] at h2
        omega
      · rw [Nat.add_mul] at hjl
        have hlt : (cur.toList.take (n * size)).length = n * size := by rw [List.length_take, Array.length_toList, hs]; omega
        rw [← Array.getElem?_toList, Array.toList_append, Array.toList_append, List.getElem?_append_left (by rw [List.length_append, List.length_take, Array.length_toList, hs]; simp only [hul]; omega)]
        show (cur.toList.take (n * size) ++ us)[j]? = _
        by_cases h1 : j < n * size
        · rw [List.getElem?_append_left (by omega), List.getElem?_take, if_pos h1, Array.getElem?_toList]
          exact hj j h1
        · rw [List.getElem?_append_right (by omega), hlt, ← hfin _ (by omega), show n * size + (j - n * size) = j from by omega]
end

/-- An append in a region that draws its order. -/
theorem flowOp_chain {P : Program} {ops : Array Oper} {o : Oper} {a : Act} {w w' : World} {F : Value → World → Prop} {t : TypeId} {v u r : Value} (hw : Region.wanted o (yielded ops a.tmps) = true) (s x : Operand)
    (ho : o.op = .call { callee := .builtin .append, args := #[s, x], argTypes := #[t, t] }) (hs : a.eval s = v) (hx : a.eval x = u) (hr : (Builtin.append_ #[t, t] o.type #[v, u]).run P w = .ok r w') (h : F r w') : flowOp P ops o a w F := by
  rw [flowOp_def, if_pos hw]
  unfold execOp
  simp only [ho, resolve, invoke, builtin, Sem.run_bind, Sem.run_pure, Result.andThen_ok, List.map_toArray, List.map_cons, List.map_nil, hs, hx, hr]
  exact h
end Go.Proofs.YtipnalfkpalieaaDoor
