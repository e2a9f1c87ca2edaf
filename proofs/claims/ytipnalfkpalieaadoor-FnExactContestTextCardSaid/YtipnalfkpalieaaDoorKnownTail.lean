/-
  A region that draws its order: the values of the first operations are known ahead, the last operations can only come last.
-/
import Derived.Test.YtipnalfkpalieaaDoorKnown
import Derived.Test.YtipnalfkpalieaaDoorFlowTail
namespace Go.Proofs.YtipnalfkpalieaaDoor
open Go.RowKit
set_option linter.unusedVariables false

theorem wp_known_tail {P : Program} {Q : Exit → Act → World → Prop} {id : Nat} {l : List Oper} {a : Act} {w : World} (w0 : World) (fl tl : List Oper) (vals : List Value) (hl : l = fl ++ tl) (hw : w0.grownBy w none) (hm : P.follows .mixedOrders = true) (hB : flowB l = true) (hc : certB l (mkCert l) fl.length = true)
    (hstep : flowHead P l fl (PC w0) PT (fKnown vals) a 0 fl)
    (hend : ∀ (u : Nat → Value) (x : World), w0.grownBy x none → (∀ i, i < fl.length → u i = vals.getD i undef) → wpList P l.toArray Q tl (flowAct a u 0 fl) x) :
    (Code.region id l.toArray true).wp P Q a w :=
  wp_flow_tail fl tl hl hm hB hc (PC w0) PT (fKnown vals) (gb_drew hw) (fun n x y h k => gb_trans k h) (fun n x y _ _ i v h => h) hstep (fun n u x _ hC hp => hend u x hC hp)
end Go.Proofs.YtipnalfkpalieaaDoor
