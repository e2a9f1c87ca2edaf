/-
  No cell of these rows narrows 'for every input' (looked for: loops, veiled, ifaces, maps, wideKeys, modest, calm, conditions, laid).
  DERIVED. THE GIVEN ROWS OF THIS SEAT. 5 by the template 'for every input the law returns true; each argument reads behind the call as it read before'; 0 by the template 'total and deterministic' (their statements: YtdhkhlemdlibfaaTotals.lean).
  GIVEN WITH THE SEED: the statements are not yours to turn. If you find one false, say at which input.
  Laid BY PROGRAM, IN A SANDBOX (cutbox-rows.mjs): the forced cells as the released guide's own fill.sh prints them over the translation 8848416af3b762fe… (all of the seat's roots in one cut). By AI agents, Wed Nov 11 2026. No macro, syntax, notation, axiom, sorry.
-/
import Derived.Test.YtdhkhlemdlibfaaChecked
import GoSem.Claim
import GoSem.ClaimJoined
import GoSem.ClaimMapViews
import Derived.JoinedTies
import Derived.KernelRfl
namespace Go.Proofs.Ytdhkhlemdlibfaa
/- THE CELL 'sum', in the pinned program and in every row, IS THE sha256 OF THE DUMP (.gsa) THAT YtdhkhlemdlibfaaProg.lean LOADS. Nothing in Lean hashes anything: it is a label: what it is worth is what the hold of that sum in a sandbox is worth. -/
noncomputable def Try.pinned : Pinned := { name := "ytdhkhlemdlibfaa", sum := "8848416af3b762fe6b8501be2e12c5e803758ca2b3703593de2e2c63d4168d2d", checked := Try.checked }
namespace Rows
def none {H : Type} : Left H := { results := [], args := [] }

/-- 'laws.FnBatchesParts': WHATEVER THE INPUT: true; the input reads as it did. -/
def fnBatchesPartsSpec : ChangeSpec := { name := "fnBatchesParts", fn := fun _ => fun
  | [d1, d2] => { results := [.lit (.bool true)], args := [d1, d2] }
  | _ => none }
def fnBatchesPartsRow : OpenClaim := { program := "ytdhkhlemdlibfaa", sum := "8848416af3b762fe6b8501be2e12c5e803758ca2b3703593de2e2c63d4168d2d", func := "loop.example/tallyaudit/laws.FnBatchesParts", spec := "fnBatchesParts", inPlace := ["slices.overlaps[loop.example/tallyaudit/impl.Batch]"], unfollowed := true, recurses := true, apart := false }
def FnBatchesPartsSaid : Prop := fnBatchesPartsRow.holds Try.pinned (OpenSpec.ofChange fnBatchesPartsSpec)

/-- ITS FALSE NEIGHBOUR: 'it returns false'. Refute it at one input. -/
def fnBatchesPartsWrong : ChangeSpec := { name := "fnBatchesParts", fn := fun _ => fun
  | [d1, d2] => { results := [.lit (.bool false)], args := [d1, d2] }
  | _ => none }
def FnBatchesPartsWrongFalsely : Prop := fnBatchesPartsRow.holds Try.pinned (OpenSpec.ofChange fnBatchesPartsWrong)

/-- 'laws.FnBatchesTwice': WHATEVER THE INPUT: true; the input reads as it did. -/
def fnBatchesTwiceSpec : ChangeSpec := { name := "fnBatchesTwice", fn := fun _ => fun
  | [d] => { results := [.lit (.bool true)], args := [d] }
  | _ => none }
def fnBatchesTwiceRow : OpenClaim := { program := "ytdhkhlemdlibfaa", sum := "8848416af3b762fe6b8501be2e12c5e803758ca2b3703593de2e2c63d4168d2d", func := "loop.example/tallyaudit/laws.FnBatchesTwice", spec := "fnBatchesTwice", inPlace := ["slices.overlaps[loop.example/tallyaudit/impl.Batch]"], unfollowed := true, recurses := true, apart := false }
def FnBatchesTwiceSaid : Prop := fnBatchesTwiceRow.holds Try.pinned (OpenSpec.ofChange fnBatchesTwiceSpec)

/-- ITS FALSE NEIGHBOUR: 'it returns false'. Refute it at one input. -/
def fnBatchesTwiceWrong : ChangeSpec := { name := "fnBatchesTwice", fn := fun _ => fun
  | [d] => { results := [.lit (.bool false)], args := [d] }
  | _ => none }
def FnBatchesTwiceWrongFalsely : Prop := fnBatchesTwiceRow.holds Try.pinned (OpenSpec.ofChange fnBatchesTwiceWrong)

/-- 'laws.FnBatchesMerge': WHATEVER THE INPUT: true; the input reads as it did. -/
def fnBatchesMergeSpec : ChangeSpec := { name := "fnBatchesMerge", fn := fun _ => fun
  | [d] => { results := [.lit (.bool true)], args := [d] }
  | _ => none }
def fnBatchesMergeRow : OpenClaim := { program := "ytdhkhlemdlibfaa", sum := "8848416af3b762fe6b8501be2e12c5e803758ca2b3703593de2e2c63d4168d2d", func := "loop.example/tallyaudit/laws.FnBatchesMerge", spec := "fnBatchesMerge", inPlace := ["slices.overlaps[loop.example/tallyaudit/impl.Batch]"], unfollowed := true, recurses := true, apart := false }
def FnBatchesMergeSaid : Prop := fnBatchesMergeRow.holds Try.pinned (OpenSpec.ofChange fnBatchesMergeSpec)

/-- ITS FALSE NEIGHBOUR: 'it returns false'. Refute it at one input. -/
def fnBatchesMergeWrong : ChangeSpec := { name := "fnBatchesMerge", fn := fun _ => fun
  | [d] => { results := [.lit (.bool false)], args := [d] }
  | _ => none }
def FnBatchesMergeWrongFalsely : Prop := fnBatchesMergeRow.holds Try.pinned (OpenSpec.ofChange fnBatchesMergeWrong)

/-- 'laws.FnExactBatchesMerge': WHATEVER THE INPUT: true; the input reads as it did. -/
def fnExactBatchesMergeSpec : ChangeSpec := { name := "fnExactBatchesMerge", fn := fun _ => fun
  | [d1, d2] => { results := [.lit (.bool true)], args := [d1, d2] }
  | _ => none }
def fnExactBatchesMergeRow : OpenClaim := { program := "ytdhkhlemdlibfaa", sum := "8848416af3b762fe6b8501be2e12c5e803758ca2b3703593de2e2c63d4168d2d", func := "loop.example/tallyaudit/laws.FnExactBatchesMerge", spec := "fnExactBatchesMerge", inPlace := ["slices.overlaps[loop.example/tallyaudit/impl.Batch]"], unfollowed := true, recurses := true, apart := false }
def FnExactBatchesMergeSaid : Prop := fnExactBatchesMergeRow.holds Try.pinned (OpenSpec.ofChange fnExactBatchesMergeSpec)

/-- ITS FALSE NEIGHBOUR: 'it returns false'. Refute it at one input. -/
def fnExactBatchesMergeWrong : ChangeSpec := { name := "fnExactBatchesMerge", fn := fun _ => fun
  | [d1, d2] => { results := [.lit (.bool false)], args := [d1, d2] }
  | _ => none }
def FnExactBatchesMergeWrongFalsely : Prop := fnExactBatchesMergeRow.holds Try.pinned (OpenSpec.ofChange fnExactBatchesMergeWrong)

/-- 'laws.FnBatchesLiveMore': WHATEVER THE INPUT: true; the input reads as it did. -/
def fnBatchesLiveMoreSpec : ChangeSpec := { name := "fnBatchesLiveMore", fn := fun _ => fun
  | [d] => { results := [.lit (.bool true)], args := [d] }
  | _ => none }
def fnBatchesLiveMoreRow : OpenClaim := { program := "ytdhkhlemdlibfaa", sum := "8848416af3b762fe6b8501be2e12c5e803758ca2b3703593de2e2c63d4168d2d", func := "loop.example/tallyaudit/laws.FnBatchesLiveMore", spec := "fnBatchesLiveMore", inPlace := ["slices.overlaps[loop.example/tallyaudit/impl.Batch]"], unfollowed := true, recurses := true, apart := false }
def FnBatchesLiveMoreSaid : Prop := fnBatchesLiveMoreRow.holds Try.pinned (OpenSpec.ofChange fnBatchesLiveMoreSpec)

/-- ITS FALSE NEIGHBOUR: 'it returns false'. Refute it at one input. -/
def fnBatchesLiveMoreWrong : ChangeSpec := { name := "fnBatchesLiveMore", fn := fun _ => fun
  | [d] => { results := [.lit (.bool false)], args := [d] }
  | _ => none }
def FnBatchesLiveMoreWrongFalsely : Prop := fnBatchesLiveMoreRow.holds Try.pinned (OpenSpec.ofChange fnBatchesLiveMoreWrong)

/- THE SECOND FORM. 'bulk': how many values and letters a reading holds, each counted each time it is reached (what is shared counts as often as it is met; a slice's spare places count too). A statement '..UptoSaid' is the law's where the arguments, and the package variables that the reading takes, are together of bulk at most 1048576: NARROWER than '..Said'. Prove '..Said' where nothing that the law and all that it calls make is longer than what came in: it says more and counts as full. Else prove '..UptoSaid'. A law counts once. -/
mutual
def uptoBulk {H : Type} : DataW H → Nat
  | .lit (.string bytes) => bytes.length + 1
  | .lit _ => 1
  | .nil => 1
  | .ptr d => uptoBulk d + 1
  | .slice elems spare => uptoBulkAll elems + uptoBulkAll spare + 1
  | .agg parts => uptoBulkAll parts + 1
  | .iface _ d => uptoBulk d + 1
  | .map entries => uptoBulkEntries entries + 1
  | .held _ => 1
def uptoBulkAll {H : Type} : List (DataW H) → Nat
  | [] => 0
  | d :: r => uptoBulk d + uptoBulkAll r
def uptoBulkEntries {H : Type} : List (Lit × DataW H) → Nat
  | [] => 0
  | x :: r => uptoBulkEntry x + uptoBulkEntries r
def uptoBulkEntry {H : Type} : Lit × DataW H → Nat
  | (.string bytes, d) => bytes.length + uptoBulk d + 1
  | (_, d) => uptoBulk d + 1
 end
def uptoSmall : (H : Type) → List (DataW H) → Bool := fun _ ds => decide (uptoBulkAll ds ≤ 1048576)
def OpenSpec.upto (s : _root_.Go.ChangeSpec) : _root_.Go.OpenSpec := { _root_.Go.OpenSpec.ofChange s with cond := some uptoSmall }

/-- 'laws.FnBatchesParts', WHERE WHAT IT READS IS OF BULK AT MOST 1048576: true; the input reads as it did. -/
def fnBatchesPartsUptoRow : OpenClaim := { program := "ytdhkhlemdlibfaa", sum := "8848416af3b762fe6b8501be2e12c5e803758ca2b3703593de2e2c63d4168d2d", func := "loop.example/tallyaudit/laws.FnBatchesParts", spec := "fnBatchesParts", inPlace := ["slices.overlaps[loop.example/tallyaudit/impl.Batch]"], unfollowed := true, recurses := true, apart := false, narrowed := true }
def FnBatchesPartsUptoSaid : Prop := fnBatchesPartsUptoRow.holds Try.pinned (OpenSpec.upto fnBatchesPartsSpec)

/-- 'laws.FnBatchesTwice', WHERE WHAT IT READS IS OF BULK AT MOST 1048576: true; the input reads as it did. -/
def fnBatchesTwiceUptoRow : OpenClaim := { program := "ytdhkhlemdlibfaa", sum := "8848416af3b762fe6b8501be2e12c5e803758ca2b3703593de2e2c63d4168d2d", func := "loop.example/tallyaudit/laws.FnBatchesTwice", spec := "fnBatchesTwice", inPlace := ["slices.overlaps[loop.example/tallyaudit/impl.Batch]"], unfollowed := true, recurses := true, apart := false, narrowed := true }
def FnBatchesTwiceUptoSaid : Prop := fnBatchesTwiceUptoRow.holds Try.pinned (OpenSpec.upto fnBatchesTwiceSpec)

/-- 'laws.FnBatchesMerge', WHERE WHAT IT READS IS OF BULK AT MOST 1048576: true; the input reads as it did. -/
def fnBatchesMergeUptoRow : OpenClaim := { program := "ytdhkhlemdlibfaa", sum := "8848416af3b762fe6b8501be2e12c5e803758ca2b3703593de2e2c63d4168d2d", func := "loop.example/tallyaudit/laws.FnBatchesMerge", spec := "fnBatchesMerge", inPlace := ["slices.overlaps[loop.example/tallyaudit/impl.Batch]"], unfollowed := true, recurses := true, apart := false, narrowed := true }
def FnBatchesMergeUptoSaid : Prop := fnBatchesMergeUptoRow.holds Try.pinned (OpenSpec.upto fnBatchesMergeSpec)

/-- 'laws.FnExactBatchesMerge', WHERE WHAT IT READS IS OF BULK AT MOST 1048576: true; the input reads as it did. -/
def fnExactBatchesMergeUptoRow : OpenClaim := { program := "ytdhkhlemdlibfaa", sum := "8848416af3b762fe6b8501be2e12c5e803758ca2b3703593de2e2c63d4168d2d", func := "loop.example/tallyaudit/laws.FnExactBatchesMerge", spec := "fnExactBatchesMerge", inPlace := ["slices.overlaps[loop.example/tallyaudit/impl.Batch]"], unfollowed := true, recurses := true, apart := false, narrowed := true }
def FnExactBatchesMergeUptoSaid : Prop := fnExactBatchesMergeUptoRow.holds Try.pinned (OpenSpec.upto fnExactBatchesMergeSpec)

/-- 'laws.FnBatchesLiveMore', WHERE WHAT IT READS IS OF BULK AT MOST 1048576: true; the input reads as it did. -/
def fnBatchesLiveMoreUptoRow : OpenClaim := { program := "ytdhkhlemdlibfaa", sum := "8848416af3b762fe6b8501be2e12c5e803758ca2b3703593de2e2c63d4168d2d", func := "loop.example/tallyaudit/laws.FnBatchesLiveMore", spec := "fnBatchesLiveMore", inPlace := ["slices.overlaps[loop.example/tallyaudit/impl.Batch]"], unfollowed := true, recurses := true, apart := false, narrowed := true }
def FnBatchesLiveMoreUptoSaid : Prop := fnBatchesLiveMoreUptoRow.holds Try.pinned (OpenSpec.upto fnBatchesLiveMoreSpec)

end Rows
end Go.Proofs.Ytdhkhlemdlibfaa
