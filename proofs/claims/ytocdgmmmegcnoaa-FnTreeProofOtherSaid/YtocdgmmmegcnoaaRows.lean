/-
  No cell of these rows narrows 'for every input' (looked for: loops, veiled, ifaces, maps, wideKeys, modest, calm, conditions, laid).
  DERIVED. THE GIVEN ROWS OF THIS SEAT. 13 by the template 'for every input the law returns true; each argument reads behind the call as it read before'; 0 by the template 'total and deterministic' (their statements: YtocdgmmmegcnoaaTotals.lean).
  GIVEN WITH THE SEED: the statements are not yours to turn. If you find one false, say at which input.
  Laid BY PROGRAM, IN A SANDBOX (cutbox-rows.mjs): the forced cells as the released guide's own fill.sh prints them over the translation c6de680aca4ddff7… (all of the seat's roots in one cut). By AI agents, Wed Nov 11 2026. No macro, syntax, notation, axiom, sorry.
-/
import Derived.Test.YtocdgmmmegcnoaaChecked
import GoSem.Claim
import GoSem.ClaimJoined
import GoSem.ClaimMapViews
import Derived.JoinedTies
import Derived.KernelRfl
namespace Go.Proofs.Ytocdgmmmegcnoaa
/- THE CELL 'sum', in the pinned program and in every row, IS THE sha256 OF THE DUMP (.gsa) THAT YtocdgmmmegcnoaaProg.lean LOADS. Nothing in Lean hashes anything: it is a label: what it is worth is what the hold of that sum in a sandbox is worth. -/
noncomputable def Try.pinned : Pinned := { name := "ytocdgmmmegcnoaa", sum := "c6de680aca4ddff7986505e3dd3c70a294e1c253b5a3ca0c80052c4036a96f55", checked := Try.checked }
namespace Rows
def none {H : Type} : Left H := { results := [], args := [] }

/-- 'laws.FnExactNodeSum': WHATEVER THE INPUT: true; the input reads as it did. -/
def fnExactNodeSumSpec : ChangeSpec := { name := "fnExactNodeSum", fn := fun _ => fun
  | [d1, d2] => { results := [.lit (.bool true)], args := [d1, d2] }
  | _ => none }
def fnExactNodeSumRow : OpenClaim := { program := "ytocdgmmmegcnoaa", sum := "c6de680aca4ddff7986505e3dd3c70a294e1c253b5a3ca0c80052c4036a96f55", func := "loop.example/tallyaudit/laws.FnExactNodeSum", spec := "fnExactNodeSum", apart := false }
def FnExactNodeSumSaid : Prop := fnExactNodeSumRow.holds Try.pinned (OpenSpec.ofChange fnExactNodeSumSpec)

/-- ITS FALSE NEIGHBOUR: 'it returns false'. Refute it at one input. -/
def fnExactNodeSumWrong : ChangeSpec := { name := "fnExactNodeSum", fn := fun _ => fun
  | [d1, d2] => { results := [.lit (.bool false)], args := [d1, d2] }
  | _ => none }
def FnExactNodeSumWrongFalsely : Prop := fnExactNodeSumRow.holds Try.pinned (OpenSpec.ofChange fnExactNodeSumWrong)

/-- 'laws.FnNodeSum': WHATEVER THE INPUT: true; the input reads as it did. -/
def fnNodeSumSpec : ChangeSpec := { name := "fnNodeSum", fn := fun _ => fun
  | [d1, d2] => { results := [.lit (.bool true)], args := [d1, d2] }
  | _ => none }
def fnNodeSumRow : OpenClaim := { program := "ytocdgmmmegcnoaa", sum := "c6de680aca4ddff7986505e3dd3c70a294e1c253b5a3ca0c80052c4036a96f55", func := "loop.example/tallyaudit/laws.FnNodeSum", spec := "fnNodeSum", apart := false }
def FnNodeSumSaid : Prop := fnNodeSumRow.holds Try.pinned (OpenSpec.ofChange fnNodeSumSpec)

/-- ITS FALSE NEIGHBOUR: 'it returns false'. Refute it at one input. -/
def fnNodeSumWrong : ChangeSpec := { name := "fnNodeSum", fn := fun _ => fun
  | [d1, d2] => { results := [.lit (.bool false)], args := [d1, d2] }
  | _ => none }
def FnNodeSumWrongFalsely : Prop := fnNodeSumRow.holds Try.pinned (OpenSpec.ofChange fnNodeSumWrong)

/-- 'laws.FnExactLeafSum': WHATEVER THE INPUT: true; the input reads as it did. -/
def fnExactLeafSumSpec : ChangeSpec := { name := "fnExactLeafSum", fn := fun _ => fun
  | [d1, d2] => { results := [.lit (.bool true)], args := [d1, d2] }
  | _ => none }
def fnExactLeafSumRow : OpenClaim := { program := "ytocdgmmmegcnoaa", sum := "c6de680aca4ddff7986505e3dd3c70a294e1c253b5a3ca0c80052c4036a96f55", func := "loop.example/tallyaudit/laws.FnExactLeafSum", spec := "fnExactLeafSum", apart := false }
def FnExactLeafSumSaid : Prop := fnExactLeafSumRow.holds Try.pinned (OpenSpec.ofChange fnExactLeafSumSpec)

/-- ITS FALSE NEIGHBOUR: 'it returns false'. Refute it at one input. -/
def fnExactLeafSumWrong : ChangeSpec := { name := "fnExactLeafSum", fn := fun _ => fun
  | [d1, d2] => { results := [.lit (.bool false)], args := [d1, d2] }
  | _ => none }
def FnExactLeafSumWrongFalsely : Prop := fnExactLeafSumRow.holds Try.pinned (OpenSpec.ofChange fnExactLeafSumWrong)

/-- 'laws.FnLeafSum': WHATEVER THE INPUT: true; the input reads as it did. -/
def fnLeafSumSpec : ChangeSpec := { name := "fnLeafSum", fn := fun _ => fun
  | [d1, d2] => { results := [.lit (.bool true)], args := [d1, d2] }
  | _ => none }
def fnLeafSumRow : OpenClaim := { program := "ytocdgmmmegcnoaa", sum := "c6de680aca4ddff7986505e3dd3c70a294e1c253b5a3ca0c80052c4036a96f55", func := "loop.example/tallyaudit/laws.FnLeafSum", spec := "fnLeafSum", apart := false }
def FnLeafSumSaid : Prop := fnLeafSumRow.holds Try.pinned (OpenSpec.ofChange fnLeafSumSpec)

/-- ITS FALSE NEIGHBOUR: 'it returns false'. Refute it at one input. -/
def fnLeafSumWrong : ChangeSpec := { name := "fnLeafSum", fn := fun _ => fun
  | [d1, d2] => { results := [.lit (.bool false)], args := [d1, d2] }
  | _ => none }
def FnLeafSumWrongFalsely : Prop := fnLeafSumRow.holds Try.pinned (OpenSpec.ofChange fnLeafSumWrong)

/-- 'laws.FnExactTreeCheck': WHATEVER THE INPUT: true; the input reads as it did. -/
def fnExactTreeCheckSpec : ChangeSpec := { name := "fnExactTreeCheck", fn := fun _ => fun
  | [d1, d2, d3, d4, d5] => { results := [.lit (.bool true)], args := [d1, d2, d3, d4, d5] }
  | _ => none }
def fnExactTreeCheckRow : OpenClaim := { program := "ytocdgmmmegcnoaa", sum := "c6de680aca4ddff7986505e3dd3c70a294e1c253b5a3ca0c80052c4036a96f55", func := "loop.example/tallyaudit/laws.FnExactTreeCheck", spec := "fnExactTreeCheck", apart := false }
def FnExactTreeCheckSaid : Prop := fnExactTreeCheckRow.holds Try.pinned (OpenSpec.ofChange fnExactTreeCheckSpec)

/-- ITS FALSE NEIGHBOUR: 'it returns false'. Refute it at one input. -/
def fnExactTreeCheckWrong : ChangeSpec := { name := "fnExactTreeCheck", fn := fun _ => fun
  | [d1, d2, d3, d4, d5] => { results := [.lit (.bool false)], args := [d1, d2, d3, d4, d5] }
  | _ => none }
def FnExactTreeCheckWrongFalsely : Prop := fnExactTreeCheckRow.holds Try.pinned (OpenSpec.ofChange fnExactTreeCheckWrong)

/-- 'laws.FnExactTreeRoot': WHATEVER THE INPUT: true; the input reads as it did. -/
def fnExactTreeRootSpec : ChangeSpec := { name := "fnExactTreeRoot", fn := fun _ => fun
  | [d] => { results := [.lit (.bool true)], args := [d] }
  | _ => none }
def fnExactTreeRootRow : OpenClaim := { program := "ytocdgmmmegcnoaa", sum := "c6de680aca4ddff7986505e3dd3c70a294e1c253b5a3ca0c80052c4036a96f55", func := "loop.example/tallyaudit/laws.FnExactTreeRoot", spec := "fnExactTreeRoot", apart := false }
def FnExactTreeRootSaid : Prop := fnExactTreeRootRow.holds Try.pinned (OpenSpec.ofChange fnExactTreeRootSpec)

/-- ITS FALSE NEIGHBOUR: 'it returns false'. Refute it at one input. -/
def fnExactTreeRootWrong : ChangeSpec := { name := "fnExactTreeRoot", fn := fun _ => fun
  | [d] => { results := [.lit (.bool false)], args := [d] }
  | _ => none }
def FnExactTreeRootWrongFalsely : Prop := fnExactTreeRootRow.holds Try.pinned (OpenSpec.ofChange fnExactTreeRootWrong)

/-- 'laws.FnTreeRootPair': WHATEVER THE INPUT: true; the input reads as it did. -/
def fnTreeRootPairSpec : ChangeSpec := { name := "fnTreeRootPair", fn := fun _ => fun
  | [d] => { results := [.lit (.bool true)], args := [d] }
  | _ => none }
def fnTreeRootPairRow : OpenClaim := { program := "ytocdgmmmegcnoaa", sum := "c6de680aca4ddff7986505e3dd3c70a294e1c253b5a3ca0c80052c4036a96f55", func := "loop.example/tallyaudit/laws.FnTreeRootPair", spec := "fnTreeRootPair", apart := false }
def FnTreeRootPairSaid : Prop := fnTreeRootPairRow.holds Try.pinned (OpenSpec.ofChange fnTreeRootPairSpec)

/-- ITS FALSE NEIGHBOUR: 'it returns false'. Refute it at one input. -/
def fnTreeRootPairWrong : ChangeSpec := { name := "fnTreeRootPair", fn := fun _ => fun
  | [d] => { results := [.lit (.bool false)], args := [d] }
  | _ => none }
def FnTreeRootPairWrongFalsely : Prop := fnTreeRootPairRow.holds Try.pinned (OpenSpec.ofChange fnTreeRootPairWrong)

/-- 'laws.FnExactTreeProof': WHATEVER THE INPUT: true; the input reads as it did. -/
def fnExactTreeProofSpec : ChangeSpec := { name := "fnExactTreeProof", fn := fun _ => fun
  | [d1, d2] => { results := [.lit (.bool true)], args := [d1, d2] }
  | _ => none }
def fnExactTreeProofRow : OpenClaim := { program := "ytocdgmmmegcnoaa", sum := "c6de680aca4ddff7986505e3dd3c70a294e1c253b5a3ca0c80052c4036a96f55", func := "loop.example/tallyaudit/laws.FnExactTreeProof", spec := "fnExactTreeProof", apart := false }
def FnExactTreeProofSaid : Prop := fnExactTreeProofRow.holds Try.pinned (OpenSpec.ofChange fnExactTreeProofSpec)

/-- ITS FALSE NEIGHBOUR: 'it returns false'. Refute it at one input. -/
def fnExactTreeProofWrong : ChangeSpec := { name := "fnExactTreeProof", fn := fun _ => fun
  | [d1, d2] => { results := [.lit (.bool false)], args := [d1, d2] }
  | _ => none }
def FnExactTreeProofWrongFalsely : Prop := fnExactTreeProofRow.holds Try.pinned (OpenSpec.ofChange fnExactTreeProofWrong)

/-- 'laws.FnTreeProofLength': WHATEVER THE INPUT: true; the input reads as it did. -/
def fnTreeProofLengthSpec : ChangeSpec := { name := "fnTreeProofLength", fn := fun _ => fun
  | [d] => { results := [.lit (.bool true)], args := [d] }
  | _ => none }
def fnTreeProofLengthRow : OpenClaim := { program := "ytocdgmmmegcnoaa", sum := "c6de680aca4ddff7986505e3dd3c70a294e1c253b5a3ca0c80052c4036a96f55", func := "loop.example/tallyaudit/laws.FnTreeProofLength", spec := "fnTreeProofLength", apart := false }
def FnTreeProofLengthSaid : Prop := fnTreeProofLengthRow.holds Try.pinned (OpenSpec.ofChange fnTreeProofLengthSpec)

/-- ITS FALSE NEIGHBOUR: 'it returns false'. Refute it at one input. -/
def fnTreeProofLengthWrong : ChangeSpec := { name := "fnTreeProofLength", fn := fun _ => fun
  | [d] => { results := [.lit (.bool false)], args := [d] }
  | _ => none }
def FnTreeProofLengthWrongFalsely : Prop := fnTreeProofLengthRow.holds Try.pinned (OpenSpec.ofChange fnTreeProofLengthWrong)

/-- 'laws.FnTreeCheckMade': WHATEVER THE INPUT: true; the input reads as it did. -/
def fnTreeCheckMadeSpec : ChangeSpec := { name := "fnTreeCheckMade", fn := fun _ => fun
  | [d] => { results := [.lit (.bool true)], args := [d] }
  | _ => none }
def fnTreeCheckMadeRow : OpenClaim := { program := "ytocdgmmmegcnoaa", sum := "c6de680aca4ddff7986505e3dd3c70a294e1c253b5a3ca0c80052c4036a96f55", func := "loop.example/tallyaudit/laws.FnTreeCheckMade", spec := "fnTreeCheckMade", apart := false }
def FnTreeCheckMadeSaid : Prop := fnTreeCheckMadeRow.holds Try.pinned (OpenSpec.ofChange fnTreeCheckMadeSpec)

/-- ITS FALSE NEIGHBOUR: 'it returns false'. Refute it at one input. -/
def fnTreeCheckMadeWrong : ChangeSpec := { name := "fnTreeCheckMade", fn := fun _ => fun
  | [d] => { results := [.lit (.bool false)], args := [d] }
  | _ => none }
def FnTreeCheckMadeWrongFalsely : Prop := fnTreeCheckMadeRow.holds Try.pinned (OpenSpec.ofChange fnTreeCheckMadeWrong)

/-- 'laws.FnTreeProof': WHATEVER THE INPUT: true; the input reads as it did. -/
def fnTreeProofSpec : ChangeSpec := { name := "fnTreeProof", fn := fun _ => fun
  | [d] => { results := [.lit (.bool true)], args := [d] }
  | _ => none }
def fnTreeProofRow : OpenClaim := { program := "ytocdgmmmegcnoaa", sum := "c6de680aca4ddff7986505e3dd3c70a294e1c253b5a3ca0c80052c4036a96f55", func := "loop.example/tallyaudit/laws.FnTreeProof", spec := "fnTreeProof", apart := false }
def FnTreeProofSaid : Prop := fnTreeProofRow.holds Try.pinned (OpenSpec.ofChange fnTreeProofSpec)

/-- ITS FALSE NEIGHBOUR: 'it returns false'. Refute it at one input. -/
def fnTreeProofWrong : ChangeSpec := { name := "fnTreeProof", fn := fun _ => fun
  | [d] => { results := [.lit (.bool false)], args := [d] }
  | _ => none }
def FnTreeProofWrongFalsely : Prop := fnTreeProofRow.holds Try.pinned (OpenSpec.ofChange fnTreeProofWrong)

/-- 'laws.FnTreeProofLeaf': WHATEVER THE INPUT: true; the input reads as it did. -/
def fnTreeProofLeafSpec : ChangeSpec := { name := "fnTreeProofLeaf", fn := fun _ => fun
  | [d] => { results := [.lit (.bool true)], args := [d] }
  | _ => none }
def fnTreeProofLeafRow : OpenClaim := { program := "ytocdgmmmegcnoaa", sum := "c6de680aca4ddff7986505e3dd3c70a294e1c253b5a3ca0c80052c4036a96f55", func := "loop.example/tallyaudit/laws.FnTreeProofLeaf", spec := "fnTreeProofLeaf", apart := false }
def FnTreeProofLeafSaid : Prop := fnTreeProofLeafRow.holds Try.pinned (OpenSpec.ofChange fnTreeProofLeafSpec)

/-- ITS FALSE NEIGHBOUR: 'it returns false'. Refute it at one input. -/
def fnTreeProofLeafWrong : ChangeSpec := { name := "fnTreeProofLeaf", fn := fun _ => fun
  | [d] => { results := [.lit (.bool false)], args := [d] }
  | _ => none }
def FnTreeProofLeafWrongFalsely : Prop := fnTreeProofLeafRow.holds Try.pinned (OpenSpec.ofChange fnTreeProofLeafWrong)

/-- 'laws.FnTreeProofOther': WHATEVER THE INPUT: true; the input reads as it did. -/
def fnTreeProofOtherSpec : ChangeSpec := { name := "fnTreeProofOther", fn := fun _ => fun
  | [d] => { results := [.lit (.bool true)], args := [d] }
  | _ => none }
def fnTreeProofOtherRow : OpenClaim := { program := "ytocdgmmmegcnoaa", sum := "c6de680aca4ddff7986505e3dd3c70a294e1c253b5a3ca0c80052c4036a96f55", func := "loop.example/tallyaudit/laws.FnTreeProofOther", spec := "fnTreeProofOther", apart := false }
def FnTreeProofOtherSaid : Prop := fnTreeProofOtherRow.holds Try.pinned (OpenSpec.ofChange fnTreeProofOtherSpec)

/-- ITS FALSE NEIGHBOUR: 'it returns false'. Refute it at one input. -/
def fnTreeProofOtherWrong : ChangeSpec := { name := "fnTreeProofOther", fn := fun _ => fun
  | [d] => { results := [.lit (.bool false)], args := [d] }
  | _ => none }
def FnTreeProofOtherWrongFalsely : Prop := fnTreeProofOtherRow.holds Try.pinned (OpenSpec.ofChange fnTreeProofOtherWrong)

/- THE SECOND FORM. 'bulk': how many values and letters a reading holds, each counted each time it is reached (what is shared counts as often as it is met; a slice's spare places count too). A statement '..UptoSaid' is the law's where the arguments, and the package variables that the reading takes, are together of bulk at most 1048576: NARROWER than '..Said'. Prove '..Said' where nothing that the law and all that it calls make is longer than what came in: it says more and counts as full. Else prove '..UptoSaid'. A law counts once. -/
mutual
def uptoBulk {H : Type} : DataW H → Nat
  | .lit (.string bytes) => bytes.length + 1
  | .lit _ => 1
  | .nil => 1
  | .ptr d => uptoBulk d + 1
  | .slice elems spare => uptoBulkAll elems + uptoBulkAll spare + 1
  | .agg parts => uptoBulkAll parts + 1
  | .iface _ d => uptoBulk d + 1
  | .map entries => uptoBulkEntries entries + 1
  | .held _ => 1
def uptoBulkAll {H : Type} : List (DataW H) → Nat
  | [] => 0
  | d :: r => uptoBulk d + uptoBulkAll r
def uptoBulkEntries {H : Type} : List (Lit × DataW H) → Nat
  | [] => 0
  | x :: r => uptoBulkEntry x + uptoBulkEntries r
def uptoBulkEntry {H : Type} : Lit × DataW H → Nat
  | (.string bytes, d) => bytes.length + uptoBulk d + 1
  | (_, d) => uptoBulk d + 1
 end
def uptoSmall : (H : Type) → List (DataW H) → Bool := fun _ ds => decide (uptoBulkAll ds ≤ 1048576)
def OpenSpec.upto (s : _root_.Go.ChangeSpec) : _root_.Go.OpenSpec := { _root_.Go.OpenSpec.ofChange s with cond := some uptoSmall }

/-- 'laws.FnExactNodeSum', WHERE WHAT IT READS IS OF BULK AT MOST 1048576: true; the input reads as it did. -/
def fnExactNodeSumUptoRow : OpenClaim := { program := "ytocdgmmmegcnoaa", sum := "c6de680aca4ddff7986505e3dd3c70a294e1c253b5a3ca0c80052c4036a96f55", func := "loop.example/tallyaudit/laws.FnExactNodeSum", spec := "fnExactNodeSum", apart := false, narrowed := true }
def FnExactNodeSumUptoSaid : Prop := fnExactNodeSumUptoRow.holds Try.pinned (OpenSpec.upto fnExactNodeSumSpec)

/-- 'laws.FnNodeSum', WHERE WHAT IT READS IS OF BULK AT MOST 1048576: true; the input reads as it did. -/
def fnNodeSumUptoRow : OpenClaim := { program := "ytocdgmmmegcnoaa", sum := "c6de680aca4ddff7986505e3dd3c70a294e1c253b5a3ca0c80052c4036a96f55", func := "loop.example/tallyaudit/laws.FnNodeSum", spec := "fnNodeSum", apart := false, narrowed := true }
def FnNodeSumUptoSaid : Prop := fnNodeSumUptoRow.holds Try.pinned (OpenSpec.upto fnNodeSumSpec)

/-- 'laws.FnExactLeafSum', WHERE WHAT IT READS IS OF BULK AT MOST 1048576: true; the input reads as it did. -/
def fnExactLeafSumUptoRow : OpenClaim := { program := "ytocdgmmmegcnoaa", sum := "c6de680aca4ddff7986505e3dd3c70a294e1c253b5a3ca0c80052c4036a96f55", func := "loop.example/tallyaudit/laws.FnExactLeafSum", spec := "fnExactLeafSum", apart := false, narrowed := true }
def FnExactLeafSumUptoSaid : Prop := fnExactLeafSumUptoRow.holds Try.pinned (OpenSpec.upto fnExactLeafSumSpec)

/-- 'laws.FnLeafSum', WHERE WHAT IT READS IS OF BULK AT MOST 1048576: true; the input reads as it did. -/
def fnLeafSumUptoRow : OpenClaim := { program := "ytocdgmmmegcnoaa", sum := "c6de680aca4ddff7986505e3dd3c70a294e1c253b5a3ca0c80052c4036a96f55", func := "loop.example/tallyaudit/laws.FnLeafSum", spec := "fnLeafSum", apart := false, narrowed := true }
def FnLeafSumUptoSaid : Prop := fnLeafSumUptoRow.holds Try.pinned (OpenSpec.upto fnLeafSumSpec)

/-- 'laws.FnExactTreeCheck', WHERE WHAT IT READS IS OF BULK AT MOST 1048576: true; the input reads as it did. -/
def fnExactTreeCheckUptoRow : OpenClaim := { program := "ytocdgmmmegcnoaa", sum := "c6de680aca4ddff7986505e3dd3c70a294e1c253b5a3ca0c80052c4036a96f55", func := "loop.example/tallyaudit/laws.FnExactTreeCheck", spec := "fnExactTreeCheck", apart := false, narrowed := true }
def FnExactTreeCheckUptoSaid : Prop := fnExactTreeCheckUptoRow.holds Try.pinned (OpenSpec.upto fnExactTreeCheckSpec)

/-- 'laws.FnExactTreeRoot', WHERE WHAT IT READS IS OF BULK AT MOST 1048576: true; the input reads as it did. -/
def fnExactTreeRootUptoRow : OpenClaim := { program := "ytocdgmmmegcnoaa", sum := "c6de680aca4ddff7986505e3dd3c70a294e1c253b5a3ca0c80052c4036a96f55", func := "loop.example/tallyaudit/laws.FnExactTreeRoot", spec := "fnExactTreeRoot", apart := false, narrowed := true }
def FnExactTreeRootUptoSaid : Prop := fnExactTreeRootUptoRow.holds Try.pinned (OpenSpec.upto fnExactTreeRootSpec)

/-- 'laws.FnTreeRootPair', WHERE WHAT IT READS IS OF BULK AT MOST 1048576: true; the input reads as it did. -/
def fnTreeRootPairUptoRow : OpenClaim := { program := "ytocdgmmmegcnoaa", sum := "c6de680aca4ddff7986505e3dd3c70a294e1c253b5a3ca0c80052c4036a96f55", func := "loop.example/tallyaudit/laws.FnTreeRootPair", spec := "fnTreeRootPair", apart := false, narrowed := true }
def FnTreeRootPairUptoSaid : Prop := fnTreeRootPairUptoRow.holds Try.pinned (OpenSpec.upto fnTreeRootPairSpec)

/-- 'laws.FnExactTreeProof', WHERE WHAT IT READS IS OF BULK AT MOST 1048576: true; the input reads as it did. -/
def fnExactTreeProofUptoRow : OpenClaim := { program := "ytocdgmmmegcnoaa", sum := "c6de680aca4ddff7986505e3dd3c70a294e1c253b5a3ca0c80052c4036a96f55", func := "loop.example/tallyaudit/laws.FnExactTreeProof", spec := "fnExactTreeProof", apart := false, narrowed := true }
def FnExactTreeProofUptoSaid : Prop := fnExactTreeProofUptoRow.holds Try.pinned (OpenSpec.upto fnExactTreeProofSpec)

/-- 'laws.FnTreeProofLength', WHERE WHAT IT READS IS OF BULK AT MOST 1048576: true; the input reads as it did. -/
def fnTreeProofLengthUptoRow : OpenClaim := { program := "ytocdgmmmegcnoaa", sum := "c6de680aca4ddff7986505e3dd3c70a294e1c253b5a3ca0c80052c4036a96f55", func := "loop.example/tallyaudit/laws.FnTreeProofLength", spec := "fnTreeProofLength", apart := false, narrowed := true }
def FnTreeProofLengthUptoSaid : Prop := fnTreeProofLengthUptoRow.holds Try.pinned (OpenSpec.upto fnTreeProofLengthSpec)

/-- 'laws.FnTreeCheckMade', WHERE WHAT IT READS IS OF BULK AT MOST 1048576: true; the input reads as it did. -/
def fnTreeCheckMadeUptoRow : OpenClaim := { program := "ytocdgmmmegcnoaa", sum := "c6de680aca4ddff7986505e3dd3c70a294e1c253b5a3ca0c80052c4036a96f55", func := "loop.example/tallyaudit/laws.FnTreeCheckMade", spec := "fnTreeCheckMade", apart := false, narrowed := true }
def FnTreeCheckMadeUptoSaid : Prop := fnTreeCheckMadeUptoRow.holds Try.pinned (OpenSpec.upto fnTreeCheckMadeSpec)

/-- 'laws.FnTreeProof', WHERE WHAT IT READS IS OF BULK AT MOST 1048576: true; the input reads as it did. -/
def fnTreeProofUptoRow : OpenClaim := { program := "ytocdgmmmegcnoaa", sum := "c6de680aca4ddff7986505e3dd3c70a294e1c253b5a3ca0c80052c4036a96f55", func := "loop.example/tallyaudit/laws.FnTreeProof", spec := "fnTreeProof", apart := false, narrowed := true }
def FnTreeProofUptoSaid : Prop := fnTreeProofUptoRow.holds Try.pinned (OpenSpec.upto fnTreeProofSpec)

/-- 'laws.FnTreeProofLeaf', WHERE WHAT IT READS IS OF BULK AT MOST 1048576: true; the input reads as it did. -/
def fnTreeProofLeafUptoRow : OpenClaim := { program := "ytocdgmmmegcnoaa", sum := "c6de680aca4ddff7986505e3dd3c70a294e1c253b5a3ca0c80052c4036a96f55", func := "loop.example/tallyaudit/laws.FnTreeProofLeaf", spec := "fnTreeProofLeaf", apart := false, narrowed := true }
def FnTreeProofLeafUptoSaid : Prop := fnTreeProofLeafUptoRow.holds Try.pinned (OpenSpec.upto fnTreeProofLeafSpec)

/-- 'laws.FnTreeProofOther', WHERE WHAT IT READS IS OF BULK AT MOST 1048576: true; the input reads as it did. -/
def fnTreeProofOtherUptoRow : OpenClaim := { program := "ytocdgmmmegcnoaa", sum := "c6de680aca4ddff7986505e3dd3c70a294e1c253b5a3ca0c80052c4036a96f55", func := "loop.example/tallyaudit/laws.FnTreeProofOther", spec := "fnTreeProofOther", apart := false, narrowed := true }
def FnTreeProofOtherUptoSaid : Prop := fnTreeProofOtherUptoRow.holds Try.pinned (OpenSpec.upto fnTreeProofOtherSpec)

end Rows
end Go.Proofs.Ytocdgmmmegcnoaa
