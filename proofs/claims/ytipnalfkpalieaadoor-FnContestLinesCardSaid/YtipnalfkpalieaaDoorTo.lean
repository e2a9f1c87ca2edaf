/-
  How the laws copy and compare slices of integers and of strings.
-/
import Derived.Test.YtipnalfkpalieaaDoorParse
namespace Go.Proofs.YtipnalfkpalieaaDoor
open Go.RowKit
set_option linter.unusedVariables false

abbrev intEz : Value := .int .i64 0
abbrev strEz : Value := .string ⟨#[]⟩






end Go.Proofs.YtipnalfkpalieaaDoor
