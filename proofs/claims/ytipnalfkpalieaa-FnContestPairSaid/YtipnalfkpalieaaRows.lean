/-
  No cell of these rows narrows 'for every input' (looked for: loops, veiled, ifaces, maps, wideKeys, modest, calm, conditions, laid).
  DERIVED. THE GIVEN ROWS OF THIS SEAT. 8 by the template 'for every input the law returns true; each argument reads behind the call as it read before'; 0 by the template 'total and deterministic' (their statements: YtipnalfkpalieaaTotals.lean).
  GIVEN WITH THE SEED: the statements are not yours to turn. If you find one false, say at which input.
  Laid BY PROGRAM, IN A SANDBOX (cutbox-rows.mjs): the forced cells as the released guide's own fill.sh prints them over the translation b40b106fe0e568bb… (all of the seat's roots in one cut). By AI agents, Wed Nov 11 2026. No macro, syntax, notation, axiom, sorry.
-/
import Derived.Test.YtipnalfkpalieaaChecked
import GoSem.Claim
import GoSem.ClaimJoined
import GoSem.ClaimMapViews
import Derived.JoinedTies
import Derived.KernelRfl
namespace Go.Proofs.Ytipnalfkpalieaa
/- THE CELL 'sum', in the pinned program and in every row, IS THE sha256 OF THE DUMP (.gsa) THAT YtipnalfkpalieaaProg.lean LOADS. Nothing in Lean hashes anything: it is a label: what it is worth is what the hold of that sum in a sandbox is worth. -/
noncomputable def Try.pinned : Pinned := { name := "ytipnalfkpalieaa", sum := "b40b106fe0e568bb2ac57956ea5826ef62b90fd77a2f2fa0f512f2a1e1fc71ec", checked := Try.checked }
namespace Rows
def none {H : Type} : Left H := { results := [], args := [] }

/-- 'laws.FnExactContestWinner': WHATEVER THE INPUT: true; the input reads as it did. -/
def fnExactContestWinnerSpec : ChangeSpec := { name := "fnExactContestWinner", fn := fun _ => fun
  | [d1, d2, d3, d4] => { results := [.lit (.bool true)], args := [d1, d2, d3, d4] }
  | _ => none }
def fnExactContestWinnerRow : OpenClaim := { program := "ytipnalfkpalieaa", sum := "b40b106fe0e568bb2ac57956ea5826ef62b90fd77a2f2fa0f512f2a1e1fc71ec", func := "loop.example/tallyaudit/laws.FnExactContestWinner", spec := "fnExactContestWinner", apart := false }
def FnExactContestWinnerSaid : Prop := fnExactContestWinnerRow.holds Try.pinned (OpenSpec.ofChange fnExactContestWinnerSpec)

/-- ITS FALSE NEIGHBOUR: 'it returns false'. Refute it at one input. -/
def fnExactContestWinnerWrong : ChangeSpec := { name := "fnExactContestWinner", fn := fun _ => fun
  | [d1, d2, d3, d4] => { results := [.lit (.bool false)], args := [d1, d2, d3, d4] }
  | _ => none }
def FnExactContestWinnerWrongFalsely : Prop := fnExactContestWinnerRow.holds Try.pinned (OpenSpec.ofChange fnExactContestWinnerWrong)

/-- 'laws.FnExactContestAgrees': WHATEVER THE INPUT: true; the input reads as it did. -/
def fnExactContestAgreesSpec : ChangeSpec := { name := "fnExactContestAgrees", fn := fun _ => fun
  | [d1, d2, d3] => { results := [.lit (.bool true)], args := [d1, d2, d3] }
  | _ => none }
def fnExactContestAgreesRow : OpenClaim := { program := "ytipnalfkpalieaa", sum := "b40b106fe0e568bb2ac57956ea5826ef62b90fd77a2f2fa0f512f2a1e1fc71ec", func := "loop.example/tallyaudit/laws.FnExactContestAgrees", spec := "fnExactContestAgrees", apart := false }
def FnExactContestAgreesSaid : Prop := fnExactContestAgreesRow.holds Try.pinned (OpenSpec.ofChange fnExactContestAgreesSpec)

/-- ITS FALSE NEIGHBOUR: 'it returns false'. Refute it at one input. -/
def fnExactContestAgreesWrong : ChangeSpec := { name := "fnExactContestAgrees", fn := fun _ => fun
  | [d1, d2, d3] => { results := [.lit (.bool false)], args := [d1, d2, d3] }
  | _ => none }
def FnExactContestAgreesWrongFalsely : Prop := fnExactContestAgreesRow.holds Try.pinned (OpenSpec.ofChange fnExactContestAgreesWrong)

/-- 'laws.FnContestValid': WHATEVER THE INPUT: true; the input reads as it did. -/
def fnContestValidSpec : ChangeSpec := { name := "fnContestValid", fn := fun _ => fun
  | [d] => { results := [.lit (.bool true)], args := [d] }
  | _ => none }
def fnContestValidRow : OpenClaim := { program := "ytipnalfkpalieaa", sum := "b40b106fe0e568bb2ac57956ea5826ef62b90fd77a2f2fa0f512f2a1e1fc71ec", func := "loop.example/tallyaudit/laws.FnContestValid", spec := "fnContestValid", apart := false }
def FnContestValidSaid : Prop := fnContestValidRow.holds Try.pinned (OpenSpec.ofChange fnContestValidSpec)

/-- ITS FALSE NEIGHBOUR: 'it returns false'. Refute it at one input. -/
def fnContestValidWrong : ChangeSpec := { name := "fnContestValid", fn := fun _ => fun
  | [d] => { results := [.lit (.bool false)], args := [d] }
  | _ => none }
def FnContestValidWrongFalsely : Prop := fnContestValidRow.holds Try.pinned (OpenSpec.ofChange fnContestValidWrong)

/-- 'laws.FnContest': WHATEVER THE INPUT: true; the input reads as it did. -/
def fnContestSpec : ChangeSpec := { name := "fnContest", fn := fun _ => fun
  | [d] => { results := [.lit (.bool true)], args := [d] }
  | _ => none }
def fnContestRow : OpenClaim := { program := "ytipnalfkpalieaa", sum := "b40b106fe0e568bb2ac57956ea5826ef62b90fd77a2f2fa0f512f2a1e1fc71ec", func := "loop.example/tallyaudit/laws.FnContest", spec := "fnContest", apart := false }
def FnContestSaid : Prop := fnContestRow.holds Try.pinned (OpenSpec.ofChange fnContestSpec)

/-- ITS FALSE NEIGHBOUR: 'it returns false'. Refute it at one input. -/
def fnContestWrong : ChangeSpec := { name := "fnContest", fn := fun _ => fun
  | [d] => { results := [.lit (.bool false)], args := [d] }
  | _ => none }
def FnContestWrongFalsely : Prop := fnContestRow.holds Try.pinned (OpenSpec.ofChange fnContestWrong)

/-- 'laws.FnContestAgrees': WHATEVER THE INPUT: true; the input reads as it did. -/
def fnContestAgreesSpec : ChangeSpec := { name := "fnContestAgrees", fn := fun _ => fun
  | [d] => { results := [.lit (.bool true)], args := [d] }
  | _ => none }
def fnContestAgreesRow : OpenClaim := { program := "ytipnalfkpalieaa", sum := "b40b106fe0e568bb2ac57956ea5826ef62b90fd77a2f2fa0f512f2a1e1fc71ec", func := "loop.example/tallyaudit/laws.FnContestAgrees", spec := "fnContestAgrees", apart := false }
def FnContestAgreesSaid : Prop := fnContestAgreesRow.holds Try.pinned (OpenSpec.ofChange fnContestAgreesSpec)

/-- ITS FALSE NEIGHBOUR: 'it returns false'. Refute it at one input. -/
def fnContestAgreesWrong : ChangeSpec := { name := "fnContestAgrees", fn := fun _ => fun
  | [d] => { results := [.lit (.bool false)], args := [d] }
  | _ => none }
def FnContestAgreesWrongFalsely : Prop := fnContestAgreesRow.holds Try.pinned (OpenSpec.ofChange fnContestAgreesWrong)

/-- 'laws.FnContestOne': WHATEVER THE INPUT: true; the input reads as it did. -/
def fnContestOneSpec : ChangeSpec := { name := "fnContestOne", fn := fun _ => fun
  | [d] => { results := [.lit (.bool true)], args := [d] }
  | _ => none }
def fnContestOneRow : OpenClaim := { program := "ytipnalfkpalieaa", sum := "b40b106fe0e568bb2ac57956ea5826ef62b90fd77a2f2fa0f512f2a1e1fc71ec", func := "loop.example/tallyaudit/laws.FnContestOne", spec := "fnContestOne", apart := false }
def FnContestOneSaid : Prop := fnContestOneRow.holds Try.pinned (OpenSpec.ofChange fnContestOneSpec)

/-- ITS FALSE NEIGHBOUR: 'it returns false'. Refute it at one input. -/
def fnContestOneWrong : ChangeSpec := { name := "fnContestOne", fn := fun _ => fun
  | [d] => { results := [.lit (.bool false)], args := [d] }
  | _ => none }
def FnContestOneWrongFalsely : Prop := fnContestOneRow.holds Try.pinned (OpenSpec.ofChange fnContestOneWrong)

/-- 'laws.FnContestMajority': WHATEVER THE INPUT: true; the input reads as it did. -/
def fnContestMajoritySpec : ChangeSpec := { name := "fnContestMajority", fn := fun _ => fun
  | [d] => { results := [.lit (.bool true)], args := [d] }
  | _ => none }
def fnContestMajorityRow : OpenClaim := { program := "ytipnalfkpalieaa", sum := "b40b106fe0e568bb2ac57956ea5826ef62b90fd77a2f2fa0f512f2a1e1fc71ec", func := "loop.example/tallyaudit/laws.FnContestMajority", spec := "fnContestMajority", apart := false }
def FnContestMajoritySaid : Prop := fnContestMajorityRow.holds Try.pinned (OpenSpec.ofChange fnContestMajoritySpec)

/-- ITS FALSE NEIGHBOUR: 'it returns false'. Refute it at one input. -/
def fnContestMajorityWrong : ChangeSpec := { name := "fnContestMajority", fn := fun _ => fun
  | [d] => { results := [.lit (.bool false)], args := [d] }
  | _ => none }
def FnContestMajorityWrongFalsely : Prop := fnContestMajorityRow.holds Try.pinned (OpenSpec.ofChange fnContestMajorityWrong)

/-- 'laws.FnContestPair': WHATEVER THE INPUT: true; the input reads as it did. -/
def fnContestPairSpec : ChangeSpec := { name := "fnContestPair", fn := fun _ => fun
  | [d1, d2] => { results := [.lit (.bool true)], args := [d1, d2] }
  | _ => none }
def fnContestPairRow : OpenClaim := { program := "ytipnalfkpalieaa", sum := "b40b106fe0e568bb2ac57956ea5826ef62b90fd77a2f2fa0f512f2a1e1fc71ec", func := "loop.example/tallyaudit/laws.FnContestPair", spec := "fnContestPair", apart := false }
def FnContestPairSaid : Prop := fnContestPairRow.holds Try.pinned (OpenSpec.ofChange fnContestPairSpec)

/-- ITS FALSE NEIGHBOUR: 'it returns false'. Refute it at one input. -/
def fnContestPairWrong : ChangeSpec := { name := "fnContestPair", fn := fun _ => fun
  | [d1, d2] => { results := [.lit (.bool false)], args := [d1, d2] }
  | _ => none }
def FnContestPairWrongFalsely : Prop := fnContestPairRow.holds Try.pinned (OpenSpec.ofChange fnContestPairWrong)

/- THE SECOND FORM. 'bulk': how many values and letters a reading holds, each counted each time it is reached (what is shared counts as often as it is met; a slice's spare places count too). A statement '..UptoSaid' is the law's where the arguments, and the package variables that the reading takes, are together of bulk at most 1048576: NARROWER than '..Said'. Prove '..Said' where nothing that the law and all that it calls make is longer than what came in: it says more and counts as full. Else prove '..UptoSaid'. A law counts once. -/
mutual
def uptoBulk {H : Type} : DataW H → Nat
  | .lit (.string bytes) => bytes.length + 1
  | .lit _ => 1
  | .nil => 1
  | .ptr d => uptoBulk d + 1
  | .slice elems spare => uptoBulkAll elems + uptoBulkAll spare + 1
  | .agg parts => uptoBulkAll parts + 1
  | .iface _ d => uptoBulk d + 1
  | .map entries => uptoBulkEntries entries + 1
  | .held _ => 1
def uptoBulkAll {H : Type} : List (DataW H) → Nat
  | [] => 0
  | d :: r => uptoBulk d + uptoBulkAll r
def uptoBulkEntries {H : Type} : List (Lit × DataW H) → Nat
  | [] => 0
  | x :: r => uptoBulkEntry x + uptoBulkEntries r
def uptoBulkEntry {H : Type} : Lit × DataW H → Nat
  | (.string bytes, d) => bytes.length + uptoBulk d + 1
  | (_, d) => uptoBulk d + 1
 end
def uptoSmall : (H : Type) → List (DataW H) → Bool := fun _ ds => decide (uptoBulkAll ds ≤ 1048576)
def OpenSpec.upto (s : _root_.Go.ChangeSpec) : _root_.Go.OpenSpec := { _root_.Go.OpenSpec.ofChange s with cond := some uptoSmall }

/-- 'laws.FnExactContestWinner', WHERE WHAT IT READS IS OF BULK AT MOST 1048576: true; the input reads as it did. -/
def fnExactContestWinnerUptoRow : OpenClaim := { program := "ytipnalfkpalieaa", sum := "b40b106fe0e568bb2ac57956ea5826ef62b90fd77a2f2fa0f512f2a1e1fc71ec", func := "loop.example/tallyaudit/laws.FnExactContestWinner", spec := "fnExactContestWinner", apart := false, narrowed := true }
def FnExactContestWinnerUptoSaid : Prop := fnExactContestWinnerUptoRow.holds Try.pinned (OpenSpec.upto fnExactContestWinnerSpec)

/-- 'laws.FnExactContestAgrees', WHERE WHAT IT READS IS OF BULK AT MOST 1048576: true; the input reads as it did. -/
def fnExactContestAgreesUptoRow : OpenClaim := { program := "ytipnalfkpalieaa", sum := "b40b106fe0e568bb2ac57956ea5826ef62b90fd77a2f2fa0f512f2a1e1fc71ec", func := "loop.example/tallyaudit/laws.FnExactContestAgrees", spec := "fnExactContestAgrees", apart := false, narrowed := true }
def FnExactContestAgreesUptoSaid : Prop := fnExactContestAgreesUptoRow.holds Try.pinned (OpenSpec.upto fnExactContestAgreesSpec)

/-- 'laws.FnContestValid', WHERE WHAT IT READS IS OF BULK AT MOST 1048576: true; the input reads as it did. -/
def fnContestValidUptoRow : OpenClaim := { program := "ytipnalfkpalieaa", sum := "b40b106fe0e568bb2ac57956ea5826ef62b90fd77a2f2fa0f512f2a1e1fc71ec", func := "loop.example/tallyaudit/laws.FnContestValid", spec := "fnContestValid", apart := false, narrowed := true }
def FnContestValidUptoSaid : Prop := fnContestValidUptoRow.holds Try.pinned (OpenSpec.upto fnContestValidSpec)

/-- 'laws.FnContest', WHERE WHAT IT READS IS OF BULK AT MOST 1048576: true; the input reads as it did. -/
def fnContestUptoRow : OpenClaim := { program := "ytipnalfkpalieaa", sum := "b40b106fe0e568bb2ac57956ea5826ef62b90fd77a2f2fa0f512f2a1e1fc71ec", func := "loop.example/tallyaudit/laws.FnContest", spec := "fnContest", apart := false, narrowed := true }
def FnContestUptoSaid : Prop := fnContestUptoRow.holds Try.pinned (OpenSpec.upto fnContestSpec)

/-- 'laws.FnContestAgrees', WHERE WHAT IT READS IS OF BULK AT MOST 1048576: true; the input reads as it did. -/
def fnContestAgreesUptoRow : OpenClaim := { program := "ytipnalfkpalieaa", sum := "b40b106fe0e568bb2ac57956ea5826ef62b90fd77a2f2fa0f512f2a1e1fc71ec", func := "loop.example/tallyaudit/laws.FnContestAgrees", spec := "fnContestAgrees", apart := false, narrowed := true }
def FnContestAgreesUptoSaid : Prop := fnContestAgreesUptoRow.holds Try.pinned (OpenSpec.upto fnContestAgreesSpec)

/-- 'laws.FnContestOne', WHERE WHAT IT READS IS OF BULK AT MOST 1048576: true; the input reads as it did. -/
def fnContestOneUptoRow : OpenClaim := { program := "ytipnalfkpalieaa", sum := "b40b106fe0e568bb2ac57956ea5826ef62b90fd77a2f2fa0f512f2a1e1fc71ec", func := "loop.example/tallyaudit/laws.FnContestOne", spec := "fnContestOne", apart := false, narrowed := true }
def FnContestOneUptoSaid : Prop := fnContestOneUptoRow.holds Try.pinned (OpenSpec.upto fnContestOneSpec)

/-- 'laws.FnContestMajority', WHERE WHAT IT READS IS OF BULK AT MOST 1048576: true; the input reads as it did. -/
def fnContestMajorityUptoRow : OpenClaim := { program := "ytipnalfkpalieaa", sum := "b40b106fe0e568bb2ac57956ea5826ef62b90fd77a2f2fa0f512f2a1e1fc71ec", func := "loop.example/tallyaudit/laws.FnContestMajority", spec := "fnContestMajority", apart := false, narrowed := true }
def FnContestMajorityUptoSaid : Prop := fnContestMajorityUptoRow.holds Try.pinned (OpenSpec.upto fnContestMajoritySpec)

/-- 'laws.FnContestPair', WHERE WHAT IT READS IS OF BULK AT MOST 1048576: true; the input reads as it did. -/
def fnContestPairUptoRow : OpenClaim := { program := "ytipnalfkpalieaa", sum := "b40b106fe0e568bb2ac57956ea5826ef62b90fd77a2f2fa0f512f2a1e1fc71ec", func := "loop.example/tallyaudit/laws.FnContestPair", spec := "fnContestPair", apart := false, narrowed := true }
def FnContestPairUptoSaid : Prop := fnContestPairUptoRow.holds Try.pinned (OpenSpec.upto fnContestPairSpec)

end Rows
end Go.Proofs.Ytipnalfkpalieaa
