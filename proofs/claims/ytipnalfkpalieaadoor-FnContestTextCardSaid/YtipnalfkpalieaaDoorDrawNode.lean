/-
  The draws of sums: spec.l6Open, spec.DrawNodeSum.
-/
import Derived.Test.YtipnalfkpalieaaDoorRdr
import Derived.Test.YtipnalfkpalieaaDoorArgs
import Derived.Test.YtipnalfkpalieaaDoorFacts
import Derived.Deep.RegionHeld3
import Derived.Deep.DrawnRows
namespace Go.Proofs.YtipnalfkpalieaaDoor
open Go.RowKit
set_option linter.unusedVariables false

theorem c_l6Open (A : Option Addr) (len cap : Nat) (w : World) (h : CodeArg w A len cap) :
    Calls Tryd.prog 61 #[.slice A len cap] w fun e w' =>
      e = .returned (.pointer (some ⟨w.heap.size, 0, none⟩)) ∧ Rdr w' w.heap.size 0 ∧ w.grownBy w' none ∧ w'.heap.size = w.heap.size + 1 := by
  obtain ⟨hl, hm, hc⟩ := h
  unfold maxLen at hm
  have key : ∀ (n c : Nat), n ≤ len → n ≤ 2000 → Rdr (w.alloc (.cells #[.slice A n c, .int .i64 0] 100)) w.heap.size 0 := by
    intro n c hn h2
    refine ⟨A, n, c, 0, Blk.new _ _ _, Nat.le_refl _, h2, fun h0 => ?_⟩
    obtain ⟨b, off, e, hb, hcell⟩ := hc (by omega)
    refine ⟨b, off, e, hb, fun j hj => ?_⟩
    obtain ⟨u, hu, hcu⟩ := hcell j (by omega)
    exact ⟨u, hu, (World.cell?_alloc_lt _ _ _ hb).trans hcu⟩
  by_cases h2 : len ≤ 2000
  · have h2' : ¬ (2000 < len) := by omega
    go_enter Tryd.func61, Tryd.ntmps61
    go_wp2
    go_ret
    exact ⟨rfl, key _ _ (Nat.le_refl _) h2, gb_alloc (gb_refl _ _) _, by simp⟩
  · have h2' : 2000 < len := by omega
    go_enter Tryd.func61, Tryd.ntmps61
    go_wp2
    go_ret
    exact ⟨rfl, key _ _ (by omega) (Nat.le_refl _), gb_alloc (gb_refl _ _) _, by simp⟩


attribute [local go_sem] flowAct flowOp_def flowUpon

def nodeRow : Array Value := #[.int .i64 (-1), .int .i64 0, .int .i64 9972, .int .i64 9973]
def nodeFacts (R : Nat) : Nat → Value → World → Prop
  | 0 | 5 => fRow R 3 4 nodeRow
  | 1 | 6 => fIs (.pointer (some ⟨R, 0, none⟩))
  | 2 | 7 => fPick 4
  | 3 | 8 => fPlace R (fun u => ∃ n : Int, u = .int .i64 n)
  | 4 | 9 | 10 | 11 => fInt
  | _ => fun _ _ => True

theorem nodeFacts_kept (R : Nat) (n m K : Nat) (x y : World) (h : RT R m K n x y) : ∀ i v, nodeFacts R i v x → nodeFacts R i v y := by
  intro i v hv
  unfold nodeFacts at *
  split at hv
  all_goals first
    | exact hv
    | exact fRow_kept h.1 hv
    | exact fPlace_kept h.1 hv

theorem nodeCell {x : World} {g k : Nat} (hb : Blk x g 3 nodeRow) (hk : k < 4) : ∃ n : Int, x.cell? ⟨g, k, none⟩ = some (.int .i64 n) := by
  have hc := hb.cell k
  match k, hk with
  | 0, _ => exact ⟨_, hc⟩
  | 1, _ => exact ⟨_, hc⟩
  | 2, _ => exact ⟨_, hc⟩
  | 3, _ => exact ⟨_, hc⟩

end Go.Proofs.YtipnalfkpalieaaDoor
