/-
  A region that draws its order, each of whose operations leaves a value that is known ahead; its calls may make memory.
-/
import Derived.Test.YtipnalfkpalieaaDoorFlow
namespace Go.Proofs.YtipnalfkpalieaaDoor
open Go.RowKit
set_option linter.unusedVariables false

def PC (w : World) (_ : Nat) (x : World) : Prop := w.grownBy x none
def PT (_ : Nat) (x y : World) : Prop := x.grownBy y none
def fKnown (vals : List Value) (i : Nat) (v : Value) (_ : World) : Prop := v = vals.getD i undef

theorem wp_known {P : Program} {Q : Exit → Act → World → Prop} {id : Nat} {l : List Oper} {a : Act} {w : World} (w0 : World) (vals : List Value) (hw : w0.grownBy w none) (hm : P.follows .mixedOrders = true) (hB : flowB l = true)
    (hstep : flowAll P l (PC w0) PT (fKnown vals) a 0 l)
    (hend : ∀ (u : Nat → Value) (x : World), w0.grownBy x none → (∀ i, i < l.length → u i = vals.getD i undef) → Q .normal (flowAct a u 0 l) x) :
    (Code.region id l.toArray true).wp P Q a w :=
  wp_flow hm hB (PC w0) PT (fKnown vals) (gb_drew hw) (fun n x y h k => gb_trans k h) (fun n x y _ _ i v h => h) hstep (fun n u x _ hC hp => hend u x hC hp)
end Go.Proofs.YtipnalfkpalieaaDoor
