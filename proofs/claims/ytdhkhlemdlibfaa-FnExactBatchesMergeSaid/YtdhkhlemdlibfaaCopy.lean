/-
  l43Copy of the reference: a batch with piles of its own.
-/
import Derived.Test.YtdhkhlemdlibfaaAppFresh
import Derived.Test.YtdhkhlemdlibfaaKnownTail
import Derived.Test.YtdhkhlemdlibfaaPut
import Derived.Test.YtdhkhlemdlibfaaFacts
namespace Go.Proofs.Ytdhkhlemdlibfaa
open Go.RowKit
set_option linter.unusedVariables false

def copyFacts (L G N : Nat) (id over : Int) (vs : Value) (ps : List Pl) : Nat → Value → World → Prop
  | 0 => fun v _ => v = .pointer (some ⟨G, 0, none⟩)
  | 1 => fun v _ => v = .int .i64 id
  | 2 => fun v _ => v = .pointer (some ⟨G, 1, none⟩)
  | 3 => fun v _ => v = .int .i64 over
  | 4 => fun v x => ∃ g, v = .slice (some ⟨g, 0, none⟩) 0 0 ∧ Blk x g 55 #[] ∧ L ≤ g
  | 5 => fun v _ => v = .pointer (some ⟨G, 2, none⟩)
  | 6 => fun v _ => v = vs
  | 7 => fun v x => ∃ B c', v = .slice B N c' ∧ x.ownsRow L 55 2 (.slice B N c') N (cellsOf plCells ps)
  | _ => fun _ _ => True
theorem copyFacts_kept (L G N : Nat) (id over : Int) (vs : Value) (ps : List Pl) (i : Nat) (v : Value) {x y : World} (hg : x.grownBy y none) (h : copyFacts L G N id over vs ps i v x) : copyFacts L G N id over vs ps i v y := by
  match i, h with
  | 0, h => exact h
  | 1, h => exact h
  | 2, h => exact h
  | 3, h => exact h
  | 4, h => obtain ⟨g, e, hB, hl⟩ := h; exact ⟨g, e, hB.grown hg (by simp), hl⟩
  | 5, h => exact h
  | 6, h => exact h
  | 7, h => obtain ⟨B, c', e, ho⟩ := h; exact ⟨B, c', e, own_below ho hg⟩
  | _ + 8, h => trivial

theorem flowOp_append {P : Program} {ops : Array Oper} {o : Oper} {a : Act} {w w' : World} {F : Value → World → Prop} {v y r : Value} (hg : o.guard = none) (t : TypeId) (s x : Operand) (ho : o.op = .call { callee := .builtin .append, args := #[s, x], argTypes := #[t, t] })
    (hs : a.eval s = v) (hx : a.eval x = y) (hr : (Builtin.append_ #[t, t] o.type #[v, y]).run P w = .ok r w') (hF : F r w') : flowOp P ops o a w F := by
  have hw : Region.wanted o (yielded ops a.tmps) = true := by unfold Region.wanted; rw [hg]
  rw [flowOp_def, if_pos hw]
  unfold execOp flowUpon
  simp only [ho, resolve, invoke, builtin, Sem.run_bind, Sem.run_pure, Result.andThen_ok, List.map_toArray, List.map_cons, List.map_nil, hs, hx, hr]
  exact hF

attribute [local go_sem] flowAct flowOp_def flowUpon
set_option maxHeartbeats 1000000 in
theorem c_l43Copy (lo : Nat) (A : Option Addr) (c : Nat) (id over : Int) (N : Nat) (ps : List Pl) (w : World) (h : Piles w lo A N c ps) (hn : N ≤ 2000000) :
    Calls Try.prog 32 #[.agg #[.int .i64 id, .int .i64 over, .slice A N c]] w fun e w' => ∃ B c', e = .returned (.agg #[.int .i64 id, .int .i64 over, .slice B N c']) ∧ w.grownBy w' none ∧
      w'.ownsRow w.heap.size 55 2 (.slice B N c') N (cellsOf plCells ps) := by
  go_enter Try.func32, Try.ntmps32
  go_wp2_with fail
  obtain ⟨w2, hw2⟩ : ∃ w2, (w.alloc (.cells #[.int .i64 id, .int .i64 over, .slice A N c] 34)).alloc (.cells #[.int .i64 0, .int .i64 0, .slice none 0 0] 34) = w2 := ⟨_, rfl⟩
  have hg2 : w.grownBy w2 none := by rw [← hw2]; exact gb_alloc (gb_alloc (gb_refl _ _) _) _
  have hz2 : w2.heap.size = w.heap.size + 2 := by rw [← hw2]; simp
  have hB0 : Blk w2 w.heap.size 34 #[.int .i64 id, .int .i64 over, .slice A N c] := by
    rw [← hw2]
    exact (Blk.new w 34 #[.int .i64 id, .int .i64 over, .slice A N c]).alloc _
  have hB1 : Blk w2 (w.heap.size + 1) 34 #[.int .i64 0, .int .i64 0, .slice none 0 0] := by
    rw [← hw2]
    have := Blk.new (w.alloc (.cells #[.int .i64 id, .int .i64 over, .slice A N c] 34)) 34 #[.int .i64 0, .int .i64 0, .slice none 0 0]
    rwa [World.size_alloc] at this
  rw [hw2]
  clear hw2
  have hP2 := h.keep0 hg2
  refine wp_flow_tail [_, _, _, _, _, _, _, _] [_, _] rfl (by kernel_rfl) (by kernel_rfl) (by kernel_rfl) (PC w2) PT (copyFacts w2.heap.size w.heap.size N id over (.slice A N c) ps) (gb_drew (gb_refl _ _)) (fun n x y h k => gb_trans k h) (fun n x y h _ i v => copyFacts_kept _ _ _ _ _ _ _ i v h) ?_ ?_
  · refine ⟨?_, ?_, ?_, ?_, ?_, ?_, ?_, ?_, trivial⟩
    all_goals
      intro n u x hn hC hp
      have b0 := (hB0.grown hC (by simp)).cell 0
      have b1 := (hB0.grown hC (by simp)).cell 1
      have b2 := (hB0.grown hC (by simp)).cell 2
    · go_simp
      exact ⟨gb_refl _ _, rfl⟩
    · have e0 : u 0 = .pointer (some ⟨w.heap.size, 0, none⟩) := hp 0 (by decide)
      go_simp
      exact ⟨gb_refl _ _, rfl⟩
    · go_simp
      exact ⟨gb_refl _ _, rfl⟩
    · have e0 : u 2 = .pointer (some ⟨w.heap.size, 1, none⟩) := hp 2 (by decide)
      go_simp
      exact ⟨gb_refl _ _, rfl⟩
    · go_simp
      exact ⟨gb_alloc (gb_refl _ _) _, _, rfl, Blk.new _ _ _, by have := hC.size; omega⟩
    · go_simp
      exact ⟨gb_refl _ _, rfl⟩
    · have e0 : u 5 = .pointer (some ⟨w.heap.size, 2, none⟩) := hp 5 (by decide)
      go_simp
      exact ⟨gb_refl _ _, rfl⟩
    · obtain ⟨g, e4, hBg, hgl⟩ := (show ∃ g, u 4 = .slice (some ⟨g, 0, none⟩) 0 0 ∧ Blk x g 55 #[] ∧ w2.heap.size ≤ g from hp 4 (by decide))
      have e6 : u 6 = .slice A N c := hp 6 (by decide)
      obtain ⟨B, c', y, hr, ho, hg⟩ := run_appFresh (P := Try.prog) pileE 32 hBg hgl (hP2.keep0 hC) plCells_one (by omega) (by omega) hC.size
      refine flowOp_append (v := .slice (some ⟨g, 0, none⟩) 0 0) (y := .slice A N c) rfl _ _ _ rfl ?_ ?_ hr ⟨hg, B, c', rfl, ho⟩
      · go_simp
      · go_simp
  · intro n u x hn hC hp
    have e1 : u 1 = .int .i64 id := hp 1 (by decide)
    have e3 : u 3 = .int .i64 over := hp 3 (by decide)
    obtain ⟨B, c', e7, ho⟩ := (show ∃ B c', u 7 = .slice B N c' ∧ x.ownsRow w2.heap.size 55 2 (.slice B N c') N (cellsOf plCells ps) from hp 7 (by decide))
    have hBx := hB1.grown hC (by simp)
    have a0 := hBx.cell 0
    have a1 := hBx.cell 1
    have a2 := hBx.cell 2
    have fa0 := hBx.frozen 0
    have fa1 := hBx.frozen 1
    have fa2 := hBx.frozen 2
    have hG := gb_trans hg2 hC
    go_simp
    go_wp2
    refine bodyPost_ret (v := .agg #[.int .i64 id, .int .i64 over, .slice B N c']) (by simp [results, Try.results32, go_sem, a0, a1, a2]) rfl ⟨_, _, rfl, ?_, ?_⟩
    · repeat refine gb_setCell ?_ (.inr (by simp; try omega)) _
      exact hG
    · repeat refine own_far ?_ (fun e => by have h1 : w2.heap.size ≤ w.heap.size + 1 := (ho.lt _ e).1; omega)
      exact own_lo ho (by omega)
end Go.Proofs.Ytdhkhlemdlibfaa
