/-
  No cell of these rows narrows 'for every input' (looked for: loops, veiled, ifaces, maps, wideKeys, modest, calm, conditions, laid).
  DERIVED. THE GIVEN ROWS OF THIS SEAT. 11 by the template 'for every input the law returns true; each argument reads behind the call as it read before'; 0 by the template 'total and deterministic' (their statements: YtifmljckmjnpfaaTotals.lean).
  GIVEN WITH THE SEED: the statements are not yours to turn. If you find one false, say at which input.
  Laid BY PROGRAM, IN A SANDBOX (cutbox-rows.mjs): the forced cells as the released guide's own fill.sh prints them over the translation 646a176eb35fc1af… (all of the seat's roots in one cut). By AI agents, Wed Nov 11 2026. No macro, syntax, notation, axiom, sorry.
-/
import Derived.Test.YtifmljckmjnpfaaChecked
import GoSem.Claim
import GoSem.ClaimJoined
import GoSem.ClaimMapViews
import Derived.JoinedTies
import Derived.KernelRfl
namespace Go.Proofs.Ytifmljckmjnpfaa
/- THE CELL 'sum', in the pinned program and in every row, IS THE sha256 OF THE DUMP (.gsa) THAT YtifmljckmjnpfaaProg.lean LOADS. Nothing in Lean hashes anything: it is a label: what it is worth is what the hold of that sum in a sandbox is worth. -/
noncomputable def Try.pinned : Pinned := { name := "ytifmljckmjnpfaa", sum := "646a176eb35fc1af5318386d50231f1f4cdac6b1240bb82422953ef4f0c68aab", checked := Try.checked }
namespace Rows
def none {H : Type} : Left H := { results := [], args := [] }

/-- 'laws.FnPrecinctsPart': WHATEVER THE INPUT: true; the input reads as it did. -/
def fnPrecinctsPartSpec : ChangeSpec := { name := "fnPrecinctsPart", fn := fun _ => fun
  | [d1, d2] => { results := [.lit (.bool true)], args := [d1, d2] }
  | _ => none }
def fnPrecinctsPartRow : OpenClaim := { program := "ytifmljckmjnpfaa", sum := "646a176eb35fc1af5318386d50231f1f4cdac6b1240bb82422953ef4f0c68aab", func := "loop.example/tallyaudit/laws.FnPrecinctsPart", spec := "fnPrecinctsPart", apart := false }
def FnPrecinctsPartSaid : Prop := fnPrecinctsPartRow.holds Try.pinned (OpenSpec.ofChange fnPrecinctsPartSpec)

/-- ITS FALSE NEIGHBOUR: 'it returns false'. Refute it at one input. -/
def fnPrecinctsPartWrong : ChangeSpec := { name := "fnPrecinctsPart", fn := fun _ => fun
  | [d1, d2] => { results := [.lit (.bool false)], args := [d1, d2] }
  | _ => none }
def FnPrecinctsPartWrongFalsely : Prop := fnPrecinctsPartRow.holds Try.pinned (OpenSpec.ofChange fnPrecinctsPartWrong)

/-- 'laws.FnGroup': WHATEVER THE INPUT: true; the input reads as it did. -/
def fnGroupSpec : ChangeSpec := { name := "fnGroup", fn := fun _ => fun
  | [d] => { results := [.lit (.bool true)], args := [d] }
  | _ => none }
def fnGroupRow : OpenClaim := { program := "ytifmljckmjnpfaa", sum := "646a176eb35fc1af5318386d50231f1f4cdac6b1240bb82422953ef4f0c68aab", func := "loop.example/tallyaudit/laws.FnGroup", spec := "fnGroup", apart := false }
def FnGroupSaid : Prop := fnGroupRow.holds Try.pinned (OpenSpec.ofChange fnGroupSpec)

/-- ITS FALSE NEIGHBOUR: 'it returns false'. Refute it at one input. -/
def fnGroupWrong : ChangeSpec := { name := "fnGroup", fn := fun _ => fun
  | [d] => { results := [.lit (.bool false)], args := [d] }
  | _ => none }
def FnGroupWrongFalsely : Prop := fnGroupRow.holds Try.pinned (OpenSpec.ofChange fnGroupWrong)

/-- 'laws.FnGroupEnough': WHATEVER THE INPUT: true; the input reads as it did. -/
def fnGroupEnoughSpec : ChangeSpec := { name := "fnGroupEnough", fn := fun _ => fun
  | [d] => { results := [.lit (.bool true)], args := [d] }
  | _ => none }
def fnGroupEnoughRow : OpenClaim := { program := "ytifmljckmjnpfaa", sum := "646a176eb35fc1af5318386d50231f1f4cdac6b1240bb82422953ef4f0c68aab", func := "loop.example/tallyaudit/laws.FnGroupEnough", spec := "fnGroupEnough", apart := false }
def FnGroupEnoughSaid : Prop := fnGroupEnoughRow.holds Try.pinned (OpenSpec.ofChange fnGroupEnoughSpec)

/-- ITS FALSE NEIGHBOUR: 'it returns false'. Refute it at one input. -/
def fnGroupEnoughWrong : ChangeSpec := { name := "fnGroupEnough", fn := fun _ => fun
  | [d] => { results := [.lit (.bool false)], args := [d] }
  | _ => none }
def FnGroupEnoughWrongFalsely : Prop := fnGroupEnoughRow.holds Try.pinned (OpenSpec.ofChange fnGroupEnoughWrong)

/-- 'laws.FnGroupSmall': WHATEVER THE INPUT: true; the input reads as it did. -/
def fnGroupSmallSpec : ChangeSpec := { name := "fnGroupSmall", fn := fun _ => fun
  | [d] => { results := [.lit (.bool true)], args := [d] }
  | _ => none }
def fnGroupSmallRow : OpenClaim := { program := "ytifmljckmjnpfaa", sum := "646a176eb35fc1af5318386d50231f1f4cdac6b1240bb82422953ef4f0c68aab", func := "loop.example/tallyaudit/laws.FnGroupSmall", spec := "fnGroupSmall", apart := false }
def FnGroupSmallSaid : Prop := fnGroupSmallRow.holds Try.pinned (OpenSpec.ofChange fnGroupSmallSpec)

/-- ITS FALSE NEIGHBOUR: 'it returns false'. Refute it at one input. -/
def fnGroupSmallWrong : ChangeSpec := { name := "fnGroupSmall", fn := fun _ => fun
  | [d] => { results := [.lit (.bool false)], args := [d] }
  | _ => none }
def FnGroupSmallWrongFalsely : Prop := fnGroupSmallRow.holds Try.pinned (OpenSpec.ofChange fnGroupSmallWrong)

/-- 'laws.FnExactPrecinctsGroup': WHATEVER THE INPUT: true; the input reads as it did. -/
def fnExactPrecinctsGroupSpec : ChangeSpec := { name := "fnExactPrecinctsGroup", fn := fun _ => fun
  | [d1, d2] => { results := [.lit (.bool true)], args := [d1, d2] }
  | _ => none }
def fnExactPrecinctsGroupRow : OpenClaim := { program := "ytifmljckmjnpfaa", sum := "646a176eb35fc1af5318386d50231f1f4cdac6b1240bb82422953ef4f0c68aab", func := "loop.example/tallyaudit/laws.FnExactPrecinctsGroup", spec := "fnExactPrecinctsGroup", apart := false }
def FnExactPrecinctsGroupSaid : Prop := fnExactPrecinctsGroupRow.holds Try.pinned (OpenSpec.ofChange fnExactPrecinctsGroupSpec)

/-- ITS FALSE NEIGHBOUR: 'it returns false'. Refute it at one input. -/
def fnExactPrecinctsGroupWrong : ChangeSpec := { name := "fnExactPrecinctsGroup", fn := fun _ => fun
  | [d1, d2] => { results := [.lit (.bool false)], args := [d1, d2] }
  | _ => none }
def FnExactPrecinctsGroupWrongFalsely : Prop := fnExactPrecinctsGroupRow.holds Try.pinned (OpenSpec.ofChange fnExactPrecinctsGroupWrong)

/-- 'laws.FnTotalMerge': WHATEVER THE INPUT: true; the input reads as it did. -/
def fnTotalMergeSpec : ChangeSpec := { name := "fnTotalMerge", fn := fun _ => fun
  | [d1, d2] => { results := [.lit (.bool true)], args := [d1, d2] }
  | _ => none }
def fnTotalMergeRow : OpenClaim := { program := "ytifmljckmjnpfaa", sum := "646a176eb35fc1af5318386d50231f1f4cdac6b1240bb82422953ef4f0c68aab", func := "loop.example/tallyaudit/laws.FnTotalMerge", spec := "fnTotalMerge", unfollowed := true, recurses := true, apart := false }
def FnTotalMergeSaid : Prop := fnTotalMergeRow.holds Try.pinned (OpenSpec.ofChange fnTotalMergeSpec)

/-- ITS FALSE NEIGHBOUR: 'it returns false'. Refute it at one input. -/
def fnTotalMergeWrong : ChangeSpec := { name := "fnTotalMerge", fn := fun _ => fun
  | [d1, d2] => { results := [.lit (.bool false)], args := [d1, d2] }
  | _ => none }
def FnTotalMergeWrongFalsely : Prop := fnTotalMergeRow.holds Try.pinned (OpenSpec.ofChange fnTotalMergeWrong)

/-- 'laws.FnExactPrecinctsTotal': WHATEVER THE INPUT: true; the input reads as it did. -/
def fnExactPrecinctsTotalSpec : ChangeSpec := { name := "fnExactPrecinctsTotal", fn := fun _ => fun
  | [d] => { results := [.lit (.bool true)], args := [d] }
  | _ => none }
def fnExactPrecinctsTotalRow : OpenClaim := { program := "ytifmljckmjnpfaa", sum := "646a176eb35fc1af5318386d50231f1f4cdac6b1240bb82422953ef4f0c68aab", func := "loop.example/tallyaudit/laws.FnExactPrecinctsTotal", spec := "fnExactPrecinctsTotal", unfollowed := true, recurses := true, apart := false }
def FnExactPrecinctsTotalSaid : Prop := fnExactPrecinctsTotalRow.holds Try.pinned (OpenSpec.ofChange fnExactPrecinctsTotalSpec)

/-- ITS FALSE NEIGHBOUR: 'it returns false'. Refute it at one input. -/
def fnExactPrecinctsTotalWrong : ChangeSpec := { name := "fnExactPrecinctsTotal", fn := fun _ => fun
  | [d] => { results := [.lit (.bool false)], args := [d] }
  | _ => none }
def FnExactPrecinctsTotalWrongFalsely : Prop := fnExactPrecinctsTotalRow.holds Try.pinned (OpenSpec.ofChange fnExactPrecinctsTotalWrong)

/-- 'laws.FnTotal': WHATEVER THE INPUT: true; the input reads as it did. -/
def fnTotalSpec : ChangeSpec := { name := "fnTotal", fn := fun _ => fun
  | [d] => { results := [.lit (.bool true)], args := [d] }
  | _ => none }
def fnTotalRow : OpenClaim := { program := "ytifmljckmjnpfaa", sum := "646a176eb35fc1af5318386d50231f1f4cdac6b1240bb82422953ef4f0c68aab", func := "loop.example/tallyaudit/laws.FnTotal", spec := "fnTotal", unfollowed := true, recurses := true, apart := false }
def FnTotalSaid : Prop := fnTotalRow.holds Try.pinned (OpenSpec.ofChange fnTotalSpec)

/-- ITS FALSE NEIGHBOUR: 'it returns false'. Refute it at one input. -/
def fnTotalWrong : ChangeSpec := { name := "fnTotal", fn := fun _ => fun
  | [d] => { results := [.lit (.bool false)], args := [d] }
  | _ => none }
def FnTotalWrongFalsely : Prop := fnTotalRow.holds Try.pinned (OpenSpec.ofChange fnTotalWrong)

/-- 'laws.FnPublishEnough': WHATEVER THE INPUT: true; the input reads as it did. -/
def fnPublishEnoughSpec : ChangeSpec := { name := "fnPublishEnough", fn := fun _ => fun
  | [d] => { results := [.lit (.bool true)], args := [d] }
  | _ => none }
def fnPublishEnoughRow : OpenClaim := { program := "ytifmljckmjnpfaa", sum := "646a176eb35fc1af5318386d50231f1f4cdac6b1240bb82422953ef4f0c68aab", func := "loop.example/tallyaudit/laws.FnPublishEnough", spec := "fnPublishEnough", unfollowed := true, recurses := true, apart := false }
def FnPublishEnoughSaid : Prop := fnPublishEnoughRow.holds Try.pinned (OpenSpec.ofChange fnPublishEnoughSpec)

/-- ITS FALSE NEIGHBOUR: 'it returns false'. Refute it at one input. -/
def fnPublishEnoughWrong : ChangeSpec := { name := "fnPublishEnough", fn := fun _ => fun
  | [d] => { results := [.lit (.bool false)], args := [d] }
  | _ => none }
def FnPublishEnoughWrongFalsely : Prop := fnPublishEnoughRow.holds Try.pinned (OpenSpec.ofChange fnPublishEnoughWrong)

/-- 'laws.FnPublish': WHATEVER THE INPUT: true; the input reads as it did. -/
def fnPublishSpec : ChangeSpec := { name := "fnPublish", fn := fun _ => fun
  | [d] => { results := [.lit (.bool true)], args := [d] }
  | _ => none }
def fnPublishRow : OpenClaim := { program := "ytifmljckmjnpfaa", sum := "646a176eb35fc1af5318386d50231f1f4cdac6b1240bb82422953ef4f0c68aab", func := "loop.example/tallyaudit/laws.FnPublish", spec := "fnPublish", unfollowed := true, recurses := true, apart := false }
def FnPublishSaid : Prop := fnPublishRow.holds Try.pinned (OpenSpec.ofChange fnPublishSpec)

/-- ITS FALSE NEIGHBOUR: 'it returns false'. Refute it at one input. -/
def fnPublishWrong : ChangeSpec := { name := "fnPublish", fn := fun _ => fun
  | [d] => { results := [.lit (.bool false)], args := [d] }
  | _ => none }
def FnPublishWrongFalsely : Prop := fnPublishRow.holds Try.pinned (OpenSpec.ofChange fnPublishWrong)

/-- 'laws.FnExactPrecinctsPublish': WHATEVER THE INPUT: true; the input reads as it did. -/
def fnExactPrecinctsPublishSpec : ChangeSpec := { name := "fnExactPrecinctsPublish", fn := fun _ => fun
  | [d1, d2] => { results := [.lit (.bool true)], args := [d1, d2] }
  | _ => none }
def fnExactPrecinctsPublishRow : OpenClaim := { program := "ytifmljckmjnpfaa", sum := "646a176eb35fc1af5318386d50231f1f4cdac6b1240bb82422953ef4f0c68aab", func := "loop.example/tallyaudit/laws.FnExactPrecinctsPublish", spec := "fnExactPrecinctsPublish", unfollowed := true, recurses := true, apart := false }
def FnExactPrecinctsPublishSaid : Prop := fnExactPrecinctsPublishRow.holds Try.pinned (OpenSpec.ofChange fnExactPrecinctsPublishSpec)

/-- ITS FALSE NEIGHBOUR: 'it returns false'. Refute it at one input. -/
def fnExactPrecinctsPublishWrong : ChangeSpec := { name := "fnExactPrecinctsPublish", fn := fun _ => fun
  | [d1, d2] => { results := [.lit (.bool false)], args := [d1, d2] }
  | _ => none }
def FnExactPrecinctsPublishWrongFalsely : Prop := fnExactPrecinctsPublishRow.holds Try.pinned (OpenSpec.ofChange fnExactPrecinctsPublishWrong)

/- THE SECOND FORM. 'bulk': how many values and letters a reading holds, each counted each time it is reached (what is shared counts as often as it is met; a slice's spare places count too). A statement '..UptoSaid' is the law's where the arguments, and the package variables that the reading takes, are together of bulk at most 1048576: NARROWER than '..Said'. Prove '..Said' where nothing that the law and all that it calls make is longer than what came in: it says more and counts as full. Else prove '..UptoSaid'. A law counts once. -/
mutual
def uptoBulk {H : Type} : DataW H → Nat
  | .lit (.string bytes) => bytes.length + 1
  | .lit _ => 1
  | .nil => 1
  | .ptr d => uptoBulk d + 1
  | .slice elems spare => uptoBulkAll elems + uptoBulkAll spare + 1
  | .agg parts => uptoBulkAll parts + 1
  | .iface _ d => uptoBulk d + 1
  | .map entries => uptoBulkEntries entries + 1
  | .held _ => 1
def uptoBulkAll {H : Type} : List (DataW H) → Nat
  | [] => 0
  | d :: r => uptoBulk d + uptoBulkAll r
def uptoBulkEntries {H : Type} : List (Lit × DataW H) → Nat
  | [] => 0
  | x :: r => uptoBulkEntry x + uptoBulkEntries r
def uptoBulkEntry {H : Type} : Lit × DataW H → Nat
  | (.string bytes, d) => bytes.length + uptoBulk d + 1
  | (_, d) => uptoBulk d + 1
 end
def uptoSmall : (H : Type) → List (DataW H) → Bool := fun _ ds => decide (uptoBulkAll ds ≤ 1048576)
def OpenSpec.upto (s : _root_.Go.ChangeSpec) : _root_.Go.OpenSpec := { _root_.Go.OpenSpec.ofChange s with cond := some uptoSmall }

/-- 'laws.FnPrecinctsPart', WHERE WHAT IT READS IS OF BULK AT MOST 1048576: true; the input reads as it did. -/
def fnPrecinctsPartUptoRow : OpenClaim := { program := "ytifmljckmjnpfaa", sum := "646a176eb35fc1af5318386d50231f1f4cdac6b1240bb82422953ef4f0c68aab", func := "loop.example/tallyaudit/laws.FnPrecinctsPart", spec := "fnPrecinctsPart", apart := false, narrowed := true }
def FnPrecinctsPartUptoSaid : Prop := fnPrecinctsPartUptoRow.holds Try.pinned (OpenSpec.upto fnPrecinctsPartSpec)

/-- 'laws.FnGroup', WHERE WHAT IT READS IS OF BULK AT MOST 1048576: true; the input reads as it did. -/
def fnGroupUptoRow : OpenClaim := { program := "ytifmljckmjnpfaa", sum := "646a176eb35fc1af5318386d50231f1f4cdac6b1240bb82422953ef4f0c68aab", func := "loop.example/tallyaudit/laws.FnGroup", spec := "fnGroup", apart := false, narrowed := true }
def FnGroupUptoSaid : Prop := fnGroupUptoRow.holds Try.pinned (OpenSpec.upto fnGroupSpec)

/-- 'laws.FnGroupEnough', WHERE WHAT IT READS IS OF BULK AT MOST 1048576: true; the input reads as it did. -/
def fnGroupEnoughUptoRow : OpenClaim := { program := "ytifmljckmjnpfaa", sum := "646a176eb35fc1af5318386d50231f1f4cdac6b1240bb82422953ef4f0c68aab", func := "loop.example/tallyaudit/laws.FnGroupEnough", spec := "fnGroupEnough", apart := false, narrowed := true }
def FnGroupEnoughUptoSaid : Prop := fnGroupEnoughUptoRow.holds Try.pinned (OpenSpec.upto fnGroupEnoughSpec)

/-- 'laws.FnGroupSmall', WHERE WHAT IT READS IS OF BULK AT MOST 1048576: true; the input reads as it did. -/
def fnGroupSmallUptoRow : OpenClaim := { program := "ytifmljckmjnpfaa", sum := "646a176eb35fc1af5318386d50231f1f4cdac6b1240bb82422953ef4f0c68aab", func := "loop.example/tallyaudit/laws.FnGroupSmall", spec := "fnGroupSmall", apart := false, narrowed := true }
def FnGroupSmallUptoSaid : Prop := fnGroupSmallUptoRow.holds Try.pinned (OpenSpec.upto fnGroupSmallSpec)

/-- 'laws.FnExactPrecinctsGroup', WHERE WHAT IT READS IS OF BULK AT MOST 1048576: true; the input reads as it did. -/
def fnExactPrecinctsGroupUptoRow : OpenClaim := { program := "ytifmljckmjnpfaa", sum := "646a176eb35fc1af5318386d50231f1f4cdac6b1240bb82422953ef4f0c68aab", func := "loop.example/tallyaudit/laws.FnExactPrecinctsGroup", spec := "fnExactPrecinctsGroup", apart := false, narrowed := true }
def FnExactPrecinctsGroupUptoSaid : Prop := fnExactPrecinctsGroupUptoRow.holds Try.pinned (OpenSpec.upto fnExactPrecinctsGroupSpec)

/-- 'laws.FnTotalMerge', WHERE WHAT IT READS IS OF BULK AT MOST 1048576: true; the input reads as it did. -/
def fnTotalMergeUptoRow : OpenClaim := { program := "ytifmljckmjnpfaa", sum := "646a176eb35fc1af5318386d50231f1f4cdac6b1240bb82422953ef4f0c68aab", func := "loop.example/tallyaudit/laws.FnTotalMerge", spec := "fnTotalMerge", unfollowed := true, recurses := true, apart := false, narrowed := true }
def FnTotalMergeUptoSaid : Prop := fnTotalMergeUptoRow.holds Try.pinned (OpenSpec.upto fnTotalMergeSpec)

/-- 'laws.FnExactPrecinctsTotal', WHERE WHAT IT READS IS OF BULK AT MOST 1048576: true; the input reads as it did. -/
def fnExactPrecinctsTotalUptoRow : OpenClaim := { program := "ytifmljckmjnpfaa", sum := "646a176eb35fc1af5318386d50231f1f4cdac6b1240bb82422953ef4f0c68aab", func := "loop.example/tallyaudit/laws.FnExactPrecinctsTotal", spec := "fnExactPrecinctsTotal", unfollowed := true, recurses := true, apart := false, narrowed := true }
def FnExactPrecinctsTotalUptoSaid : Prop := fnExactPrecinctsTotalUptoRow.holds Try.pinned (OpenSpec.upto fnExactPrecinctsTotalSpec)

/-- 'laws.FnTotal', WHERE WHAT IT READS IS OF BULK AT MOST 1048576: true; the input reads as it did. -/
def fnTotalUptoRow : OpenClaim := { program := "ytifmljckmjnpfaa", sum := "646a176eb35fc1af5318386d50231f1f4cdac6b1240bb82422953ef4f0c68aab", func := "loop.example/tallyaudit/laws.FnTotal", spec := "fnTotal", unfollowed := true, recurses := true, apart := false, narrowed := true }
def FnTotalUptoSaid : Prop := fnTotalUptoRow.holds Try.pinned (OpenSpec.upto fnTotalSpec)

/-- 'laws.FnPublishEnough', WHERE WHAT IT READS IS OF BULK AT MOST 1048576: true; the input reads as it did. -/
def fnPublishEnoughUptoRow : OpenClaim := { program := "ytifmljckmjnpfaa", sum := "646a176eb35fc1af5318386d50231f1f4cdac6b1240bb82422953ef4f0c68aab", func := "loop.example/tallyaudit/laws.FnPublishEnough", spec := "fnPublishEnough", unfollowed := true, recurses := true, apart := false, narrowed := true }
def FnPublishEnoughUptoSaid : Prop := fnPublishEnoughUptoRow.holds Try.pinned (OpenSpec.upto fnPublishEnoughSpec)

/-- 'laws.FnPublish', WHERE WHAT IT READS IS OF BULK AT MOST 1048576: true; the input reads as it did. -/
def fnPublishUptoRow : OpenClaim := { program := "ytifmljckmjnpfaa", sum := "646a176eb35fc1af5318386d50231f1f4cdac6b1240bb82422953ef4f0c68aab", func := "loop.example/tallyaudit/laws.FnPublish", spec := "fnPublish", unfollowed := true, recurses := true, apart := false, narrowed := true }
def FnPublishUptoSaid : Prop := fnPublishUptoRow.holds Try.pinned (OpenSpec.upto fnPublishSpec)

/-- 'laws.FnExactPrecinctsPublish', WHERE WHAT IT READS IS OF BULK AT MOST 1048576: true; the input reads as it did. -/
def fnExactPrecinctsPublishUptoRow : OpenClaim := { program := "ytifmljckmjnpfaa", sum := "646a176eb35fc1af5318386d50231f1f4cdac6b1240bb82422953ef4f0c68aab", func := "loop.example/tallyaudit/laws.FnExactPrecinctsPublish", spec := "fnExactPrecinctsPublish", unfollowed := true, recurses := true, apart := false, narrowed := true }
def FnExactPrecinctsPublishUptoSaid : Prop := fnExactPrecinctsPublishUptoRow.holds Try.pinned (OpenSpec.upto fnExactPrecinctsPublishSpec)

end Rows
end Go.Proofs.Ytifmljckmjnpfaa
