/-
  slices.Insert of one record into a list of the call's own; copy at elements of several cells.
-/
import Derived.Test.YtdhkhlemdlibfaaLive
import Derived.Test.YtdhkhlemdlibfaaAppAll
import Derived.Test.YtdhkhlemdlibfaaKnownTail
import Derived.Laws.CopyRow
import Derived.Lib.AppendZerosOnto
import Derived.Lib.Overlaps
import Derived.Laws.Externs
namespace Go.Proofs.Ytdhkhlemdlibfaa
open Go.RowKit
set_option linter.unusedVariables false

section
variable {P : Program}
theorem run_copyK (w : World) (dT sT ty elem : TypeId) (size n : Nat) (g o dLen dCap : Nat) (a : Addr) (sLen sCap : Nat) (cur : Array Value) (t : TypeId) (cs : List Value)
    (hu : P.underlying dT = some (.slice elem)) (hs : (P.info? elem).map (·.size) = some size)
    (hg : w.heap[g]? = some (.cells cur t (0, 0))) (hn : n = Nat.min sLen dLen) (hcl : cs.length = n * size)
    (hsrc : ∀ j v, cs[j]? = some v → w.cell? (a.add j) = some v) (hfit : o + cs.length ≤ cur.size) (h1 : ∀ v ∈ cs, v.oneCell' = true) :
    (Builtin.copy_ #[dT, sT] ty #[.slice (some ⟨g, o, none⟩) dLen dCap, .slice (some a) sLen sCap]).run P w =
      .ok (goInt n) (w.setRow g (cur.toList.take o ++ cs ++ cur.toList.drop (o + cs.length)).toArray) := by
  have hl := run_loadCells_list (P := P) w a cs hsrc
  have hst := run_storeCells_at P g o t cs 0 cur w hg (by simpa using hfit) h1
  rw [hcl] at hl
  cases hq : P.info? elem with
  | none => simp [hq] at hs
  | some i =>
    have hi : i.size = size := by simpa [hq] using hs
    simp [Builtin.copy_, run_underlying hu, Builtin.lenOf, Builtin.firstCells, sizeOf, typeInfo, hq, hi, ← hn, hl, hst]
theorem wpList_copyRun {w : World} {ops : Array Oper} {rest : List Oper} {o : Oper} {a : Act} {Q : Exit → Act → World → Prop} (hgd : o.guard = none) (d s : Operand) (t t' : TypeId)
    (ho : o.op = .call { callee := .builtin .copy, args := #[d, s], argTypes := #[t, t'] }) (v u : Value) (hd : a.eval d = v) (hs : a.eval s = u) {v' : Value} {w' : World}
    (hr : (Builtin.copy_ #[t, t'] o.type #[v, u]).run P w = .ok v' w') (h : wpList P ops Q rest (a.put o.dst v') w') : wpList P ops Q (o :: rest) a w := by
  refine wpList_plain hgd fun K hK => ?_
  unfold Oper.wp execOp
  simp only [ho, resolve, invoke, builtin, Sem.run_bind, Sem.run_pure, Result.andThen_ok, List.map_toArray, List.map_cons, List.map_nil, hd, hs, hr]
  exact hK _ _ h
theorem wpList_appRun {w : World} {ops : Array Oper} {rest : List Oper} {o : Oper} {a : Act} {Q : Exit → Act → World → Prop} (hgd : o.guard = none) (d s : Operand) (t t' : TypeId)
    (ho : o.op = .call { callee := .builtin .append, args := #[d, s], argTypes := #[t, t'] }) (v u : Value) (hd : a.eval d = v) (hs : a.eval s = u) {v' : Value} {w' : World}
    (hr : (Builtin.append_ #[t, t'] o.type #[v, u]).run P w = .ok v' w') (h : wpList P ops Q rest (a.put o.dst v') w') : wpList P ops Q (o :: rest) a w := by
  refine wpList_plain hgd fun K hK => ?_
  unfold Oper.wp execOp
  simp only [ho, resolve, invoke, builtin, Sem.run_bind, Sem.run_pure, Result.andThen_ok, List.map_toArray, List.map_cons, List.map_nil, hd, hs, hr]
  exact hK _ _ h
end
theorem gb_setRow {w : World} {row : Option Nat} {g : Nat} (h : row = some g ∨ w.heap.size ≤ g) (cs : Array Value) : w.grownBy (w.setRow g cs) row :=
  ⟨rfl, rfl, rfl, by simp [World.setRow], fun k hk hn => setRow_other w g k cs (by rintro rfl; rcases h with h | h; exact hn h.symm; omega)⟩
/-- What an insert leaves. -/
def InsRes (lo : Nat) (v : Value) (n : Nat) (ys : List Value) (w : World) (e : Ending) (w' : World) : Prop :=
  ∃ A c, e = .returned (.slice A (n + 1) c) ∧ w'.ownsRow lo 34 3 (.slice A (n + 1) c) (n + 1) ys ∧ w.grownBy w' v.ownBlock ∧
    ((Value.slice A (n + 1) c).ownBlock = v.ownBlock ∨ ∃ g, (Value.slice A (n + 1) c).ownBlock = some g ∧ w.heap.size ≤ g)

theorem take3 {α : Type} {a b c : List α} {k : Nat} (h : k ≤ a.length) : (a ++ b ++ c).take k = a.take k := by
  rw [List.append_assoc, List.take_append_of_le_length h]
theorem row_shift {cur xs us : List Value} {n i : Nat} (hx : cur.take (n * 3) = xs) (hxl : xs.length = n * 3) (hul : us.length = 3) (hi : i < n) (hc : (n + 1) * 3 ≤ cur.length) :
    (cur.take ((i + 1) * 3) ++ xs.drop (i * 3) ++ cur.drop ((i + 1) * 3 + (xs.drop (i * 3)).length)).take (i * 3) ++ us ++ (cur.take ((i + 1) * 3) ++ xs.drop (i * 3) ++ cur.drop ((i + 1) * 3 + (xs.drop (i * 3)).length)).drop (i * 3 + us.length) =
      (xs.take (i * 3) ++ us ++ xs.drop (i * 3)) ++ cur.drop ((n + 1) * 3) := by
  have hal : (cur.take ((i + 1) * 3)).length = (i + 1) * 3 := by rw [List.length_take]; omega
  have hdl : (xs.drop (i * 3)).length = n * 3 - i * 3 := by rw [List.length_drop, hxl]
  have e1 : (cur.take ((i + 1) * 3) ++ xs.drop (i * 3) ++ cur.drop ((i + 1) * 3 + (xs.drop (i * 3)).length)).take (i * 3) = xs.take (i * 3) := by
    rw [take3 (by omega), List.take_take, ← hx, List.take_take]
    congr 1
    omega
  have e2 : (cur.take ((i + 1) * 3) ++ xs.drop (i * 3) ++ cur.drop ((i + 1) * 3 + (xs.drop (i * 3)).length)).drop (i * 3 + us.length) = xs.drop (i * 3) ++ cur.drop ((n + 1) * 3) := by
    rw [List.append_assoc, List.drop_append, List.drop_of_length_le (by omega), List.nil_append, hal, show i * 3 + us.length - (i + 1) * 3 = 0 from by omega, List.drop_zero, hdl]
    congr 2
    omega
  rw [e1, e2]
  simp
theorem row_grow {row xs us : List Value} {n i : Nat} (hx : row.take (i * 3) = xs.take (i * 3)) (hxl : xs.length = n * 3) (hul : us.length = 3) (hi : i < n) (hc : (n + 1) * 3 ≤ row.length) :
    ((row.take (i * 3) ++ us ++ row.drop (i * 3 + us.length)).take ((i + 1) * 3) ++ xs.drop (i * 3) ++ (row.take (i * 3) ++ us ++ row.drop (i * 3 + us.length)).drop ((i + 1) * 3 + (xs.drop (i * 3)).length)).take ((n + 1) * 3) =
      xs.take (i * 3) ++ us ++ xs.drop (i * 3) := by
  have hal : (row.take (i * 3) ++ us).length = (i + 1) * 3 := by rw [List.length_append, List.length_take, hul]; omega
  have hdl : (xs.drop (i * 3)).length = n * 3 - i * 3 := by rw [List.length_drop, hxl]
  have e1 : (row.take (i * 3) ++ us ++ row.drop (i * 3 + us.length)).take ((i + 1) * 3) = row.take (i * 3) ++ us := by
    rw [List.take_append_of_le_length (by omega), List.take_of_length_le (by omega)]
  rw [e1, List.take_append_of_le_length (by rw [List.length_append]; omega), List.take_of_length_le (by rw [List.length_append]; omega), hx]
theorem sizeBatch (w : World) : (Go.sizeOf 34).run Try.prog w = .ok 3 w := by
  obtain ⟨i0, a1, a2, a3, a4⟩ := batchE.hi
  simp [Go.sizeOf, typeInfo, a1, a3]

attribute [local go_sem] flowAct flowOp_def flowUpon
set_option maxHeartbeats 2000000 in
set_option maxRecDepth 100000 in
theorem c_Insert (lo : Nat) (A : Option Addr) (n cap i g0 : Nat) (xs us : List Value) (w : World) (h : w.ownsRow lo 34 3 (.slice A n cap) n xs) (hB : Blk w g0 34 us.toArray) (hul : us.length = 3)
    (h1 : ∀ u ∈ us, u.oneCell' = true) (h1x : ∀ u ∈ xs, u.oneCell' = true) (hne : (Value.slice A n cap).ownBlock ≠ some g0) (hi : i ≤ n) (hn : n ≤ 1000) (hlo : lo ≤ w.heap.size) :
    Calls Try.prog 27 #[.slice A n cap, .int .i64 (i : Int), .slice (some ⟨g0, 0, none⟩) 1 1] w (InsRes lo (.slice A n cap) n (xs.take (i * 3) ++ us ++ xs.drop (i * 3)) w) := by
  have hlc := (Sl.own h).le
  have hcm := (Sl.own h).max
  have hSl : Sl w 0 3 (some ⟨g0, 0, none⟩) 1 1 us := Sl.own (own_of_blk (lo := 0) (size := 3) (n := 1) hB (by simp [hul]) (by omega) (Nat.zero_le _))
  have H1 := Lib.hid h1
  clear h1
  by_cases hin : i = n
  · subst hin
    have hys : Hid (xs.take (i * 3) ++ us ++ xs.drop (i * 3) = xs ++ us) := Lib.hid (by
      have := h.1
      rw [List.take_of_length_le (by omega), List.drop_of_length_le (by omega), List.append_nil])
    by_cases hcap : cap = i
    · subst hcap
      go_enter Try.func27, Try.ntmps27
      go_wp2_with (at_builtin; refine wpList_appAll batchE rfl _ _ rfl lo 0 cap 1 1 _ xs us (some ⟨g0, 0, none⟩) rfl h rfl hSl H1.out (by omega) (by omega) hlo ?_; intro B' c' w3 hown3 hb3 hg3 hat3)
      go_ret
      exact ⟨B', c', rfl, by rw [hys.out]; exact hown3, hg3, hat3⟩
    · go_enter Try.func27, Try.ntmps27
      go_wp2_with (at_builtin; refine wpList_appAll batchE rfl _ _ rfl lo 0 i 1 1 _ xs us (some ⟨g0, 0, none⟩) rfl h rfl hSl H1.out (by omega) (by omega) hlo ?_; intro B' c' w3 hown3 hb3 hg3 hat3)
      go_ret
      exact ⟨B', c', rfl, by rw [hys.out]; exact hown3, hg3, hat3⟩
  · have hilt : i < n := by omega
    obtain ⟨hxl, hx2⟩ := h
    obtain ⟨g, cur, rfl, hgl, hgb, hcs, htk⟩ : ∃ g cur, A = some ⟨g, 0, none⟩ ∧ lo ≤ g ∧ w.heap[g]? = some (.cells cur 34 (0, 0)) ∧ cur.size = cap * 3 ∧ cur.toList.take (n * 3) = xs := by
      rcases hx2 with ⟨e, e2⟩ | ⟨g, cap', cur, e, a1, a2, a3, a4, a5, a6⟩
      · omega
      · injection e with e e1 e2
        subst e2
        exact ⟨g, cur, e, a1, a2, a5, a6⟩
    have hg0 : g ≠ g0 := fun e => hne (by rw [e]; rfl)
    have hcell : ∀ j v, xs[j]? = some v → w.cell? ⟨g, j, none⟩ = some v := fun j v hj => by
      rw [cell_of_row w g j cur _ (0, 0) hgb]
      rw [← htk, List.getElem?_take] at hj
      split at hj
      · simpa using hj
      · cases hj
    have hgw : g < w.heap.size := Blk.lt hgb
    have hinf : (Try.prog.info? 34).map (·.size) = some 3 := by
      obtain ⟨i0, a1, a2, a3, a4⟩ := batchE.hi
      rw [a1]; simp [a3]
    have hi0 : (0 : Int) ≤ (i : Int) := by omega
    have hin' : (i : Int) ≤ (n : Int) := by omega
    have hinb : ((i : Int) == (n : Int)) = false := by simp; omega
    have hci : ¬ cap = i := by omega
    have hw1 : IntKind.i64.wrap ((n : Int) + 1) = (n : Int) + 1 := IntWalk.i64_in _ (by omega)
    have hw2 : IntKind.i64.wrap ((i : Int) + 1) = (i : Int) + 1 := IntWalk.i64_in _ (by omega)
    have hxd : (xs.drop (i * 3)).length = (n - i) * 3 := by rw [List.length_drop, hxl]; omega
    have hxt : (xs.take (i * 3)).length = i * 3 := by rw [List.length_take, hxl]; omega
    obtain ⟨YS, hYS⟩ : ∃ YS, xs.take (i * 3) ++ us ++ xs.drop (i * 3) = YS := ⟨_, rfl⟩
    have hyl : YS.length = (n + 1) * 3 := by rw [← hYS, List.length_append, List.length_append, hxt, hul, hxd]; omega
    rw [hYS]
    by_cases hroom : n + 1 ≤ cap
    · have hov : ∀ lb cb, (callFunc 46 #[.slice (some ⟨g0, 0, none⟩) 1 1, .slice (some ⟨g, (i + 1) * 3, none⟩) lb cb]).run Try.prog w = .ok (.value (.bool false)) w := fun lb cb => by
        rw [run_callFunc_extern Try.func46 (by kernel_rfl) (by kernel_rfl) (by kernel_rfl) (e := Extern.SlicesOverlaps.overlaps #[23, 23] #[4]) (by kernel_rfl),
          Lib.run_overlaps_apart w 23 4 34 Try.underlying23 3 sizeBatch ⟨g0, 0, none⟩ ⟨g, (i + 1) * 3, none⟩ 1 1 lb cb (fun e => hg0 e.symm) 34 34 us.toArray.size (cap * 3) (by unfold Blk at hB; simp [World.shape?, hB]) (by simp [World.shape?, hgb, hcs]) (by omega) (hB.frozen 0) (hB.frozen _)]
        rfl
      have hn1c : (n : Int) + 1 ≤ (cap : Int) := by omega
      have t1 : ((n : Int) + 1).toNat = n + 1 := by omega
      have t2 : ((i : Int) + 1).toNat = i + 1 := by omega
      have hi1 : (i : Int) + 1 ≤ (n : Int) + 1 := by omega
      have hi2 : (i : Int) ≤ (n : Int) + 1 := by omega
      have hi3 : (0 : Int) ≤ (i : Int) + 1 := by omega
      have hci1 : ¬ cap = i + 1 := by omega
      have hngt : ¬ (cap : Int) < (n : Int) + 1 := by omega
      obtain ⟨R1, hR1⟩ : ∃ R1, (cur.toList.take ((i + 1) * 3) ++ xs.drop (i * 3) ++ cur.toList.drop ((i + 1) * 3 + (xs.drop (i * 3)).length)).toArray = R1 := ⟨_, rfl⟩
      have hR1s : R1.size = cap * 3 := by
        rw [← hR1, List.size_toArray, List.length_append, List.length_append, List.length_take, List.length_drop, List.length_drop, Array.length_toList, hcs, hxl]
        omega
      have hcp1 : ∀ (x : World), w.grownBy x none → ∀ ty dc sc, (Builtin.copy_ #[23, 23] ty #[.slice (some ⟨g, (i + 1) * 3, none⟩) (n - i) dc, .slice (some ⟨g, i * 3, none⟩) (n + 1 - i) sc]).run Try.prog x = .ok (goInt ((n - i : Nat) : Int)) (x.setRow g R1) := fun x hx ty dc sc => by
        have hgx : x.heap[g]? = some (.cells cur 34 (0, 0)) := (hx.block g hgw (by simp)).trans hgb
        have := run_copyK (P := Try.prog) x 23 23 ty 34 3 (n - i) g ((i + 1) * 3) (n - i) dc ⟨g, i * 3, none⟩ (n + 1 - i) sc cur 34 (xs.drop (i * 3)) Try.underlying23 hinf hgx (by simp only [Nat.min_def]; split <;> omega) hxd
          (fun j v hj => by
            rw [add_off]
            rw [List.getElem?_drop] at hj
            exact gb_cell hx (hcell _ v hj) (by simp)) (by rw [hxd, hcs]; omega) (fun v hv => h1x v (List.mem_of_mem_drop hv))
        rw [hR1] at this
        exact this
      obtain ⟨R2, hR2⟩ : ∃ R2, (R1.toList.take (i * 3) ++ us ++ R1.toList.drop (i * 3 + us.length)).toArray = R2 := ⟨_, rfl⟩
      have hcp2 : ∀ (x : World), w.grownBy x none → ∀ ty dc, (Builtin.copy_ #[23, 23] ty #[.slice (some ⟨g, i * 3, none⟩) (n + 1 - i) dc, .slice (some ⟨g0, 0, none⟩) 1 1]).run Try.prog (x.setRow g R1) = .ok (goInt 1) ((x.setRow g R1).setRow g R2) := fun x hx ty dc => by
        have hgx : x.heap[g]? = some (.cells cur 34 (0, 0)) := (hx.block g hgw (by simp)).trans hgb
        have hBx : (x.setRow g R1).heap[g0]? = some (.cells us.toArray 34 (0, 0)) := (setRow_other x g g0 R1 (fun e => hg0 e.symm)).trans ((hx.block g0 hB.lt (by simp)).trans hB)
        have := run_copyK (P := Try.prog) (x.setRow g R1) 23 23 ty 34 3 1 g (i * 3) (n + 1 - i) dc ⟨g0, 0, none⟩ 1 1 R1 34 us Try.underlying23 hinf (setRow_heap x g cur R1 _ _ hgx) (by simp only [Nat.min_def]; split <;> omega) (by rw [hul])
          (fun j v hj => by
            rw [add_off, Nat.zero_add, cell_of_row _ g0 j us.toArray _ (0, 0) hBx]
            simpa using hj) (by rw [hul, hR1s]; omega) H1.out
        rw [hR2] at this
        exact this
      have hfin : Hid (∀ x : World, w.grownBy x none → ((x.setRow g R1).setRow g R2).ownsRow lo 34 3 (.slice (some ⟨g, 0, none⟩) (n + 1) cap) (n + 1) YS ∧ w.grownBy ((x.setRow g R1).setRow g R2) (some g)) := Lib.hid (fun x hx => by
        have hgx : x.heap[g]? = some (.cells cur 34 (0, 0)) := (hx.block g hgw (by simp)).trans hgb
        have hshift := row_shift (cur := cur.toList) (us := us) htk hxl hul hilt (by rw [Array.length_toList, hcs]; omega)
        have hR2l : R2.toList = (xs.take (i * 3) ++ us ++ xs.drop (i * 3)) ++ cur.toList.drop ((n + 1) * 3) := by
          rw [← hR2, ← hR1]
          simpa using hshift
        rw [hYS] at hR2l
        refine ⟨⟨hyl, .inr ⟨g, cap, R2, rfl, hgl, setRow_heap _ g R1 R2 _ _ (setRow_heap x g cur R1 _ _ hgx), hroom, by unfold maxLen; omega, ?_, ?_⟩⟩, gb_trans (gb_mono hx (some g)) (gb_trans (gb_setRow (.inl rfl) _) (gb_setRow (.inl rfl) _))⟩
        · rw [← Array.length_toList, hR2l, List.length_append, hyl, List.length_drop, Array.length_toList, hcs]
          omega
        · rw [hR2l, List.take_append_of_le_length (by omega), List.take_of_length_le (by omega)])
      clear hx2 hR1 hR2 hR1s hcell
      go_enter Try.func27, Try.ntmps27
      go_wp2_with (simp only [hov])
      refine wp_known_tail w [_, _, _, _, _, _, _, _] _ [.slice (some ⟨g, 0, none⟩) (n + 1) cap, .int .i64 i, .int .i64 1, .int .i64 ((i : Int) + 1), .slice (some ⟨g, (i + 1) * 3, none⟩) (n - i) (cap - (i + 1)), .slice (some ⟨g, 0, none⟩) (n + 1) cap, .int .i64 i, .slice (some ⟨g, i * 3, none⟩) (n + 1 - i) (cap - i)] rfl (gb_refl _ _) (by kernel_rfl) (by kernel_rfl) (by kernel_rfl) ?_ ?_
      · refine ⟨?_, ?_, ?_, ?_, ?_, ?_, ?_, ?_, trivial⟩
        all_goals
          intro nn u y hnn hC hp
          simp [flowPreds, Region.binds, fKnown] at hp
          go_simp
        all_goals try exact ⟨gb_refl _ _, rfl⟩
      · intro u x hC hp'
        have e4 : u 4 = .slice (some ⟨g, (i + 1) * 3, none⟩) (n - i) (cap - (i + 1)) := hp' 4 (by decide)
        have e7 : u 7 = .slice (some ⟨g, i * 3, none⟩) (n + 1 - i) (cap - i) := hp' 7 (by decide)
        have hc1 := hcp1 x hC
        have hc2 := hcp2 x hC
        obtain ⟨f1, f2⟩ := hfin.out x hC
        go_simp
        go_wp2_with (first
          | (simp only [hc1])
          | (simp only [hc2])
          | (at_builtin; refine wpList_copyRun rfl _ _ _ _ rfl _ _ rfl rfl (hc2 _ _) ?_))
        go_ret
        exact ⟨_, _, rfl, f1, f2, .inl rfl⟩
    · obtain ⟨i0, zi, zz, zs, zb⟩ := batchE.hi
      obtain ⟨Z, hZ, hZs⟩ : ∃ Z : Value, Z = .agg #[.int .i64 0, .int .i64 0, .slice none 0 0] ∧ Z.cells.size = 3 := ⟨_, rfl, rfl⟩
      rw [← hZ] at zz
      have hgw' : (cap : Int) < (n : Int) + 1 := by omega
      have hik : i + (n + 1 - i) = n + 1 := by omega
      have hkk : (n : Int) + 1 - (i : Int) = ((n + 1 - i : Nat) : Int) := by omega
      have hold : (Builtin.firstCells i0.size i (.slice (some ⟨g, 0, none⟩) i cap)).run Try.prog w.drew = .ok (xs.take (i * 3)).toArray w.drew := by
        rw [zs]
        exact run_firstCells_some w.drew 3 i ⟨g, 0, none⟩ i cap (xs.take (i * 3)) hxt (fun j v hj => by
          rw [add_off, Nat.zero_add]
          rw [List.getElem?_take] at hj
          split at hj
          · exact hcell j v hj
          · cases hj)
      obtain ⟨G, hG⟩ : ∃ G, grownCap w (n + 1) cap 34 = G := ⟨_, rfl⟩
      have hGn : n + 1 ≤ G := by rw [← hG]; exact grownCap_ge w _ _ _
      have hG63 : G ≤ 9223372036854775807 := by
        have := grownCap_le_maxLen w (n + 1) cap 34 (by unfold maxLen; omega)
        rw [hG] at this
        unfold maxLen at this
        omega
      obtain ⟨ROW, hROW⟩ : ∃ ROW : Array Value, (xs.take (i * 3)).toArray ++ Builtin.zeroCells Z.cells (n + 1 - i) ++ Builtin.zeroCells Z.cells (G - (n + 1)) = ROW := ⟨_, rfl⟩
      have hRs : ROW.size = G * 3 := by
        rw [← hROW]
        simp only [Array.size_append, List.size_toArray, size_zeroCells, hZs, hxt]
        omega
      have hRt : ROW.toList.take (i * 3) = xs.take (i * 3) := by
        rw [← hROW]
        simp only [Array.toList_append, List.append_assoc]
        rw [List.take_append_of_le_length (by rw [hxt]; exact Nat.le_refl _), List.take_of_length_le (by rw [hxt]; exact Nat.le_refl _)]
      have hrz : ∀ ty, (Builtin.append_ #[23, 3] ty #[.slice (some ⟨g, 0, none⟩) i cap, .int .i64 ((n : Int) + 1 - (i : Int))]).run Try.prog w =
          .ok (.slice (some ⟨w.heap.size, 0, none⟩) (n + 1) G) (w.drew.alloc (.cells ROW 34)) := fun ty => by
        have h := Lib.run_append_grow_zeros w 23 3 ty 34 i0 _ .i64 .i64 Try.underlying23 Try.underlying3 zi zz (some ⟨g, 0, none⟩) i cap (xs.take (i * 3)) hold (n + 1 - i) (by omega) (by omega) (by omega) (by omega) (by rw [zb]; omega) (by rw [zb, hik]; exact growslice_fits (by omega) (by omega))
        rw [hik, hG, hROW] at h
        rw [hkk]
        exact h
      obtain ⟨W1, hW1⟩ : ∃ W1, w.drew.alloc (.cells ROW 34) = W1 := ⟨_, rfl⟩
      have hG1 : w.grownBy W1 none := by rw [← hW1]; exact gb_alloc (gb_drew (gb_refl w none)) _
      have hB1 : W1.heap[w.heap.size]? = some (.cells ROW 34 (0, 0)) := by rw [← hW1]; exact Blk.new w.drew 34 ROW
      rw [hW1] at hrz
      obtain ⟨RA, hRA⟩ : ∃ RA, (ROW.toList.take (i * 3) ++ us ++ ROW.toList.drop (i * 3 + us.length)).toArray = RA := ⟨_, rfl⟩
      have hRAs : RA.size = G * 3 := by
        rw [← hRA, List.size_toArray, List.length_append, List.length_append, List.length_take, List.length_drop, Array.length_toList, hRs, hul]
        omega
      have hcp1 : ∀ ty dc, (Builtin.copy_ #[23, 23] ty #[.slice (some ⟨w.heap.size, i * 3, none⟩) (n + 1 - i) dc, .slice (some ⟨g0, 0, none⟩) 1 1]).run Try.prog W1 = .ok (goInt 1) (W1.setRow w.heap.size RA) := fun ty dc => by
        have hBx : W1.heap[g0]? = some (.cells us.toArray 34 (0, 0)) := (hG1.block g0 hB.lt (by simp)).trans hB
        have := run_copyK (P := Try.prog) W1 23 23 ty 34 3 1 w.heap.size (i * 3) (n + 1 - i) dc ⟨g0, 0, none⟩ 1 1 ROW 34 us Try.underlying23 hinf hB1 (by simp only [Nat.min_def]; split <;> omega) (by rw [hul])
          (fun j v hj => by
            rw [add_off, Nat.zero_add, cell_of_row _ g0 j us.toArray _ (0, 0) hBx]
            simpa using hj) (by rw [hul, hRs]; omega) H1.out
        rw [hRA] at this
        exact this
      have hG2 : w.grownBy (W1.setRow w.heap.size RA) none := gb_step hG1 (gb_setRow (.inl rfl) _) (fun b e => .inr (by injection e with e; omega))
      have hB2 : (W1.setRow w.heap.size RA).heap[w.heap.size]? = some (.cells RA 34 (0, 0)) := setRow_heap W1 _ ROW RA _ _ hB1
      have hS2 : w.heap.size < (W1.setRow w.heap.size RA).heap.size := Blk.lt hB2
      obtain ⟨W2, hW2⟩ : ∃ W2, W1.setRow w.heap.size RA = W2 := ⟨_, rfl⟩
      rw [hW2] at hcp1 hG2 hB2 hS2
      obtain ⟨RB, hRB⟩ : ∃ RB, (RA.toList.take ((i + 1) * 3) ++ xs.drop (i * 3) ++ RA.toList.drop ((i + 1) * 3 + (xs.drop (i * 3)).length)).toArray = RB := ⟨_, rfl⟩
      have hcp2 : ∀ (x : World), W2.grownBy x none → ∀ ty dc sc, (Builtin.copy_ #[23, 23] ty #[.slice (some ⟨w.heap.size, (i + 1) * 3, none⟩) (n - i) dc, .slice (some ⟨g, i * 3, none⟩) (n - i) sc]).run Try.prog x = .ok (goInt ((n - i : Nat) : Int)) (x.setRow w.heap.size RB) := fun x hx ty dc sc => by
        have hgx : x.heap[w.heap.size]? = some (.cells RA 34 (0, 0)) := (hx.block _ hS2 (by simp)).trans hB2
        have := run_copyK (P := Try.prog) x 23 23 ty 34 3 (n - i) w.heap.size ((i + 1) * 3) (n - i) dc ⟨g, i * 3, none⟩ (n - i) sc RA 34 (xs.drop (i * 3)) Try.underlying23 hinf hgx (by simp only [Nat.min_def]; split <;> omega) hxd
          (fun j v hj => by
            rw [add_off]
            rw [List.getElem?_drop] at hj
            exact gb_cell hx (gb_cell hG2 (hcell _ v hj) (by simp)) (by simp)) (by rw [hxd, hRAs]; omega) (fun v hv => h1x v (List.mem_of_mem_drop hv))
        rw [hRB] at this
        exact this
      have hfin : Hid (∀ x : World, W2.grownBy x none → (x.setRow w.heap.size RB).ownsRow lo 34 3 (.slice (some ⟨w.heap.size, 0, none⟩) (n + 1) G) (n + 1) YS ∧ w.grownBy (x.setRow w.heap.size RB) (some g)) := Lib.hid (fun x hx => by
        have hgx : x.heap[w.heap.size]? = some (.cells RA 34 (0, 0)) := (hx.block _ hS2 (by simp)).trans hB2
        have hgrow := row_grow (row := ROW.toList) (us := us) hRt hxl hul hilt (by rw [Array.length_toList, hRs]; omega)
        have hRBl : RB.toList.take ((n + 1) * 3) = YS := by
          rw [← hRB, ← hRA, ← hYS]
          simpa using hgrow
        have hRBs : RB.size = G * 3 := by
          rw [← hRB, List.size_toArray, List.length_append, List.length_append, List.length_take, List.length_drop, List.length_drop, Array.length_toList, hRAs, hxl]
          omega
        refine ⟨⟨hyl, .inr ⟨w.heap.size, G, RB, rfl, hlo, setRow_heap x _ RA RB _ _ hgx, hGn, by unfold maxLen; omega, hRBs, hRBl⟩⟩, gb_mono (gb_step (gb_trans hG2 hx) (gb_setRow (.inl rfl) _) (fun b e => .inr (by injection e with e; omega))) _⟩)
      have hGi : ¬ G = i := by omega
      have hGi1 : ¬ G = i + 1 := by omega
      have t2 : ((i : Int) + 1).toNat = i + 1 := by omega
      have hi1 : (i : Int) + 1 ≤ (n : Int) + 1 := by omega
      have hi2 : (i : Int) ≤ (n : Int) + 1 := by omega
      have hi3 : (0 : Int) ≤ (i : Int) + 1 := by omega
      have hw3 : IntKind.i64.wrap ((n : Int) + 1 - (i : Int)) = (n : Int) + 1 - (i : Int) := IntWalk.i64_in _ (by omega)
      clear hx2 hRA hRB hRAs hRs hROW hRt hG hW1 hW2 hold hik hkk hB1 hcell zi zz zs zb hZ hZs
      go_enter Try.func27, Try.ntmps27
      go_wp2_with (first
        | (at_builtin; refine wpList_appRun rfl _ _ _ _ rfl _ _ rfl rfl (hrz _) ?_)
        | (at_builtin; refine wpList_copyRun rfl _ _ _ _ rfl _ _ rfl rfl (hcp1 _ _) ?_))
      refine wp_known_tail W2 [_, _, _, _, _, _, _, _] _ [.slice (some ⟨w.heap.size, 0, none⟩) (n + 1) G, .int .i64 i, .int .i64 1, .int .i64 ((i : Int) + 1), .slice (some ⟨w.heap.size, (i + 1) * 3, none⟩) (n - i) (G - (i + 1)), .slice (some ⟨g, 0, none⟩) n cap, .int .i64 i, .slice (some ⟨g, i * 3, none⟩) (n - i) (cap - i)] rfl (gb_refl _ _) (by kernel_rfl) (by kernel_rfl) (by kernel_rfl) ?_ ?_
      · refine ⟨?_, ?_, ?_, ?_, ?_, ?_, ?_, ?_, trivial⟩
        all_goals
          intro nn u y hnn hC hp
          simp [flowPreds, Region.binds, fKnown] at hp
          go_simp
        all_goals try exact ⟨gb_refl _ _, rfl⟩
      · intro u x hC hp'
        have e4 : u 4 = .slice (some ⟨w.heap.size, (i + 1) * 3, none⟩) (n - i) (G - (i + 1)) := hp' 4 (by decide)
        have e7 : u 7 = .slice (some ⟨g, i * 3, none⟩) (n - i) (cap - i) := hp' 7 (by decide)
        have hc2 := hcp2 x hC
        obtain ⟨f1, f2⟩ := hfin.out x hC
        go_simp
        go_wp2_with (simp only [hc2])
        go_ret
        exact ⟨_, _, rfl, f1, f2, .inr ⟨_, rfl, Nat.le_refl _⟩⟩
end Go.Proofs.Ytdhkhlemdlibfaa
