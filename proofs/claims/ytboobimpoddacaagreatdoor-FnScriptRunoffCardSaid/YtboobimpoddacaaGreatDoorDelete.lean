/-
  slices.Delete of one int of a slice of the call's own.
-/
import Derived.Test.YtboobimpoddacaaGreatDoorPackA
import Derived.Laws.CopyRow
import Derived.Laws.AppendOwn
import Derived.Lib.SliceRun
import Derived.Laws.IdiomCopy
namespace Go.Proofs.YtboobimpoddacaaGreatDoor
open Go.RowKit
set_option linter.unusedVariables false

section
variable {P : Program}
theorem own_take {w : World} {lo e n c k : Nat} {A : Option Addr} {xs : List Value} (h : w.ownsRow lo e 1 (.slice A n c) n xs) (hA : A ≠ none) (hk : k ≤ n) : w.ownsRow lo e 1 (.slice A k c) k (xs.take k) := by
  obtain ⟨h1, h2⟩ := h
  rcases h2 with ⟨e1, e2⟩ | ⟨g, cap, cur, e1, hg, hh, h3, h4, h5, h6⟩
  · injection e1 with e1
    exact absurd e1 hA
  · injection e1 with e1 e3 e4
    subst e4
    refine ⟨by rw [List.length_take]; omega, .inr ⟨g, c, cur, by rw [e1], hg, hh, by omega, h4, h5, ?_⟩⟩
    rw [← h6, List.take_take]
    congr 1
    omega
theorem gb_setRow {w : World} {row : Option Nat} {g : Nat} (h : row = some g ∨ w.heap.size ≤ g) (cs : Array Value) : w.grownBy (w.setRow g cs) row :=
  ⟨rfl, rfl, rfl, by simp [World.setRow], fun k hk hn => setRow_other w g k cs (by rintro rfl; rcases h with h | h; exact hn h.symm; omega)⟩
end
theorem erase_parts (xs : List Value) (i : Nat) (hi : i < xs.length) : xs.take i ++ xs.drop (i + 1) = xs.eraseIdx i := (List.eraseIdx_eq_take_drop_succ xs i).symm

/-- An append whose outcome is known. -/
theorem wpList_appRun {P : Program} {w w' : World} {ops : Array Oper} {rest : List Oper} {o : Oper} {a : Act} {Q : Exit → Act → World → Prop} {v y r : Value}
    (hg : o.guard = none) (s x : Operand) (t : TypeId) (hop : o.op = Op.call { callee := Callee.builtin Builtin.append, args := #[s, x], argTypes := #[t, t] })
    (hs : a.eval s = v) (hx : a.eval x = y) (hr : (Builtin.append_ #[t, t] o.type #[v, y]).run P w = .ok r w') (hK : wpList P ops Q rest (a.put o.dst r) w') : wpList P ops Q (o :: rest) a w := by
  refine wpList_plain hg fun K hK' => ?_
  unfold Oper.wp
  simp [execOp, hop, resolve, invoke, builtin, hs, hx, hr, Result.andThen]
  exact hK' _ _ hK

attribute [local go_sem] flowAct flowOp_def flowUpon
theorem del_final {lo g m i cap : Nat} {xs : List Int} {cur R1 : Array Value} {w x : World} (hgl : lo ≤ g) (hgb : w.heap[g]? = some (.cells cur 3 (0, 0))) (hgw : g < w.heap.size) (hcs : cur.size = cap) (hlc : m + 1 ≤ cap) (hcm : cap ≤ 9223372036854775807)
    (hxl : xs.length = m + 1) (hi : i ≤ m) (htk : cur.toList.take (m + 1) = xs.map (Value.int .i64)) (hR1 : (cur.toList.take i ++ (xs.map (Value.int .i64)).drop (i + 1) ++ cur.toList.drop m).toArray = R1) (hx : w.grownBy x none) :
    ((x.setRow g R1).setCell ⟨g, m, none⟩ (.int .i64 0)).ownsRow lo 3 1 (.slice (some ⟨g, 0, none⟩) m cap) m ((xs.eraseIdx i).map (Value.int .i64)) ∧ w.grownBy ((x.setRow g R1).setCell ⟨g, m, none⟩ (.int .i64 0)) (some g) := by
  have hgx : x.heap[g]? = some (.cells cur 3 (0, 0)) := (hx.block g hgw (by simp)).trans hgb
  have hR1g := setRow_heap x g cur R1 _ _ hgx
  obtain ⟨vs, hvs⟩ : ∃ vs, xs.map (Value.int .i64) = vs := ⟨_, rfl⟩
  have hvl : vs.length = m + 1 := by rw [← hvs]; simpa using hxl
  rw [hvs] at htk hR1
  have hcl : cur.toList.length = cap := by rw [Array.length_toList, hcs]
  have hdl : (vs.drop (i + 1)).length = m - i := by rw [List.length_drop, hvl]; omega
  have htl : (cur.toList.take i).length = i := by rw [List.length_take]; omega
  have hR1l : R1.toList = cur.toList.take i ++ vs.drop (i + 1) ++ cur.toList.drop m := by rw [← hR1]
  have hti : cur.toList.take i = vs.take i := by rw [← htk, List.take_take]; congr 1; omega
  have hpl : (cur.toList.take i ++ vs.drop (i + 1)).length = m := by rw [List.length_append, htl, hdl]; omega
  have hR1s : R1.size = cap := by
    rw [← Array.length_toList, hR1l, List.length_append, hpl, List.length_drop, hcl]
    omega
  have her : (xs.eraseIdx i).map (Value.int .i64) = cur.toList.take i ++ vs.drop (i + 1) := by
    rw [hti, ← hvs, List.eraseIdx_eq_take_drop_succ, List.map_append, List.map_take, List.map_drop]
  have hrow : (x.setRow g R1).ownsRow lo 3 1 (.slice (some ⟨g, 0, none⟩) m cap) m (cur.toList.take i ++ vs.drop (i + 1)) :=
    ⟨by rw [hpl]; omega, .inr ⟨g, cap, R1, rfl, hgl, hR1g, by omega, by unfold maxLen; omega, by omega, by rw [hR1l, Nat.mul_one, List.take_append_of_le_length (by omega), List.take_of_length_le (by omega)]⟩⟩
  obtain ⟨h1, h2⟩ := hrow.stored m (.int .i64 0)
  rw [her]
  refine ⟨?_, gb_trans (gb_trans (gb_mono hx (some g)) (gb_setRow (.inl rfl) _)) h2⟩
  rw [List.set_eq_of_length_le (by omega)] at h1
  exact h1

set_option maxHeartbeats 2000000 in
set_option maxRecDepth 100000 in
theorem c_Delete (lo : Nat) (A : Option Addr) (m cap i : Nat) (xs : List Int) (w : World) (h : w.ownsRow lo 3 1 (.slice A (m + 1) cap) (m + 1) (xs.map (Value.int .i64))) (hi : i ≤ m) (hn : m ≤ 1000000) :
    Calls Tryz.prog 89 #[.slice A (m + 1) cap, .int .i64 i, .int .i64 ((i : Int) + 1)] w fun e w' => e = .returned (.slice A m cap) ∧ w'.ownsRow lo 3 1 (.slice A m cap) m ((xs.eraseIdx i).map (Value.int .i64)) ∧ w.grownBy w' (Value.slice A (m + 1) cap).ownBlock := by
  have hlc := (Sl.own h).le
  have hcm := (Sl.own h).max
  obtain ⟨hxl, hx2⟩ := h
  obtain ⟨g, cur, rfl, hgl, hgb, hcs, htk⟩ : ∃ g cur, A = some ⟨g, 0, none⟩ ∧ lo ≤ g ∧ w.heap[g]? = some (.cells cur 3 (0, 0)) ∧ cur.size = cap ∧ cur.toList.take (m + 1) = xs.map (Value.int .i64) := by
    rcases hx2 with ⟨e, e2⟩ | ⟨g, cap', cur, e, a1, a2, a3, a4, a5, a6⟩
    · omega
    · injection e with e e1 e2
      subst e2
      exact ⟨g, cur, e, a1, a2, by omega, by rw [Nat.mul_one] at a6; exact a6⟩
  have hxl2 : xs.length = m + 1 := by simpa using hxl
  have hgw : g < w.heap.size := Blk.lt hgb
  obtain ⟨R1, hR1⟩ : ∃ R1, (cur.toList.take i ++ (xs.map (Value.int .i64)).drop (i + 1) ++ cur.toList.drop m).toArray = R1 := ⟨_, rfl⟩
  have hfin : Hid (∀ x : World, w.grownBy x none → _) := Lib.hid (fun x hx => del_final hgl hgb hgw hcs hlc hcm hxl2 hi htk hR1 (x := x) hx)
  obtain ⟨vs, hvs⟩ : ∃ vs, xs.map (Value.int .i64) = vs := ⟨_, rfl⟩
  have hvl : vs.length = m + 1 := by rw [← hvs]; simpa using hxl2
  have hv1 : ∀ v ∈ vs, v.oneCell' = true := fun v hv => by
    rw [← hvs] at hv
    obtain ⟨z, _, rfl⟩ := List.mem_map.1 hv
    rfl
  rw [hvs] at htk hR1
  have hcell : ∀ j v, vs[j]? = some v → w.cell? ⟨g, j, none⟩ = some v := fun j v hj => by
    rw [cell_of_row w g j cur _ (0, 0) hgb]
    rw [← htk, List.getElem?_take] at hj
    split at hj
    · simpa using hj
    · cases hj
  have hdl : (vs.drop (i + 1)).length = m - i := by rw [List.length_drop, hvl]; omega
  obtain ⟨i0, zi, zz, zs, zb⟩ := intE.hi
  have hR1g : ∀ x : World, w.grownBy x none → (x.setRow g R1).heap[g]? = some (.cells R1 3 (0, 0)) := fun x hx => setRow_heap x g cur R1 _ _ ((hx.block g hgw (by simp)).trans hgb)
  have hR1s : R1.size = cap := by
    rw [← hR1, List.size_toArray, List.length_append, List.length_append, List.length_take, hdl, List.length_drop, Array.length_toList, hcs]
    omega
  have happ : ∀ (B : Addr) (x : World), w.grownBy x none → (∀ j u, (vs.drop (i + 1))[j]? = some u → x.cell? (B.add j) = some u) → ∀ ty sc, (Builtin.append_ #[62, 62] ty #[.slice (some ⟨g, 0, none⟩) i cap, .slice (some B) (m - i) sc]).run Tryz.prog x = .ok (.slice (some ⟨g, 0, none⟩) m cap) (x.setRow g R1) := fun B x hx hsrc ty sc => by
    have hgx : x.heap[g]? = some (.cells cur 3 (0, 0)) := (hx.block g hgw (by simp)).trans hgb
    have := run_append_room (P := Tryz.prog) (w := x) 62 ty 3 i0 Tryz.underlying62 zi g i cap cur hgx B (m - i) sc (vs.drop (i + 1)) (by rw [zs, hdl, Nat.mul_one]) hsrc (fun v hv => hv1 v (List.mem_of_mem_drop hv)) (by omega) (by rw [zs, hdl, hcs]; omega)
    rw [zs, hdl, Nat.mul_one, show i + (m - i) = m from by omega, hR1] at this
    exact this
  have hclr : ∀ (x : World), w.grownBy x none → ∀ ty c, (Builtin.clear_ #[62] ty #[.slice (some ⟨g, m, none⟩) 1 c]).run Tryz.prog (x.setRow g R1) = .ok (.tuple #[]) ((x.setRow g R1).setCell ⟨g, m, none⟩ (.int .i64 0)) := fun x hx ty c => by
    have := Lib.run_clear_slice (P := Tryz.prog) (x.setRow g R1) 62 3 ty (.int .i64 0) Tryz.underlying62 (fun w => by simp [zeroValue, typeInfo, zi, zz]) rfl rfl g m 1 c (by omega) (fun j hj => by
      obtain rfl : j = 0 := by omega
      rw [cell_of_row _ g (m + 0) R1 _ (0, 0) (hR1g x hx), Array.getElem?_eq_getElem (by omega)]
      rfl) (fun j hj => (show Blk (x.setRow g R1) g 3 R1 from hR1g x hx).frozen _)
    rw [this]
    rfl
  have hi0 : (0 : Int) ≤ (i : Int) := by omega
  have hi1 : (i : Int) ≤ (m : Int) := by omega
  have hi2 : (i : Int) ≤ (cap : Int) := by omega
  have hi3 : (i : Int) + 1 ≤ (m : Int) + 1 := by omega
  have hi4 : (0 : Int) ≤ (i : Int) + 1 := by omega
  have hi5 : (i : Int) ≤ (i : Int) + 1 := by omega
  have hi6 : (m : Int) ≤ (m : Int) + 1 := by omega
  have hi7 : (m : Int) + 1 ≤ (cap : Int) := by omega
  have hi8 : (i : Int) ≤ (m : Int) + 1 := by omega
  have t2 : ((i : Int) + 1).toNat = i + 1 := by omega
  have t3 : ((m : Int) + 1).toNat = m + 1 := by omega
  have hne : ((i : Int) == (i : Int) + 1) = false := by simp; omega
  have hcmne : ¬ cap = m := by omega
  by_cases hc : cap = i + 1
  · obtain rfl : i = m := by omega
    subst hc
    have hnil : vs.drop (i + 1) = [] := List.eq_nil_of_length_eq_zero (by omega)
    have hR1c : R1 = cur := by rw [← hR1, hnil, List.append_nil, List.take_append_drop]
    clear happ hcell hR1 hR1g hnil
    go_enter Tryz.func89, Tryz.ntmps89
    go_wp2_with fail
    refine wp_known_tail w [_, _, _, _, _, _] _ [.slice (some ⟨g, 0, none⟩) (i + 1) (i + 1), .int .i64 i, .slice (some ⟨g, 0, none⟩) i (i + 1), .slice (some ⟨g, 0, none⟩) (i + 1) (i + 1), .int .i64 ((i : Int) + 1), .slice (some ⟨g, 0, none⟩) 0 0] rfl (gb_refl _ _) (by kernel_rfl) (by kernel_rfl) (by kernel_rfl) ?_ ?_
    · refine ⟨?_, ?_, ?_, ?_, ?_, ?_, trivial⟩
      all_goals
        intro nn u y hnn hC hp
        simp [flowPreds, Region.binds, fKnown] at hp
        go_simp
      all_goals try exact ⟨gb_refl _ _, rfl⟩
    · intro u x hC hp'
      have e2 := hp' 2 (by decide)
      have e5 := hp' 5 (by decide)
      simp only [List.getD_cons_succ, List.getD_cons_zero] at e2 e5
      have hxx : x.setRow g R1 = x := by rw [hR1c]; exact setRow_self x g cur _ _ ((hC.block g hgw (by simp)).trans hgb)
      have hc2 := hclr x hC
      obtain ⟨f1, f2⟩ := hfin.out x hC
      rw [hxx] at f1 f2
      simp only [hxx] at hc2
      clear hxx
      go_simp
      go_wp2_with (first | (simp only [hc2]))
      go_ret
      exact ⟨rfl, f1, f2⟩
  · have hci : ¬ cap = i := by omega
    have hap := happ ⟨g, i + 1, none⟩
    have hsrc : ∀ x : World, w.grownBy x none → ∀ j u, (vs.drop (i + 1))[j]? = some u → x.cell? ((⟨g, i + 1, none⟩ : Addr).add j) = some u := fun x hx j u hj => by
      rw [add_off]
      rw [List.getElem?_drop] at hj
      exact gb_cell hx (hcell _ u hj) (by simp)
    clear happ hcell hR1 hR1g
    go_enter Tryz.func89, Tryz.ntmps89
    go_wp2_with fail
    refine wp_known_tail w [_, _, _, _, _, _] _ [.slice (some ⟨g, 0, none⟩) (m + 1) cap, .int .i64 i, .slice (some ⟨g, 0, none⟩) i cap, .slice (some ⟨g, 0, none⟩) (m + 1) cap, .int .i64 ((i : Int) + 1), .slice (some ⟨g, i + 1, none⟩) (m - i) (cap - (i + 1))] rfl (gb_refl _ _) (by kernel_rfl) (by kernel_rfl) (by kernel_rfl) ?_ ?_
    · refine ⟨?_, ?_, ?_, ?_, ?_, ?_, trivial⟩
      all_goals
        intro nn u y hnn hC hp
        simp [flowPreds, Region.binds, fKnown] at hp
        go_simp
      all_goals try exact ⟨gb_refl _ _, rfl⟩
    · intro u x hC hp'
      have e2 := hp' 2 (by decide)
      have e5 := hp' 5 (by decide)
      simp only [List.getD_cons_succ, List.getD_cons_zero] at e2 e5
      have hc1 := hap x hC (hsrc x hC)
      have hc2 := hclr x hC
      obtain ⟨f1, f2⟩ := hfin.out x hC
      refine wpList_appRun (v := .slice (some ⟨g, 0, none⟩) i cap) (y := .slice (some ⟨g, i + 1, none⟩) (m - i) (cap - (i + 1))) rfl _ _ _ rfl ?_ ?_ (hc1 _ _) ?_
      · go_simp
      · go_simp
      · go_simp
        go_wp2_with (first | (simp only [hc2]))
        go_ret
        exact ⟨rfl, f1, f2⟩
end Go.Proofs.YtboobimpoddacaaGreatDoor
