/-
  Valid precincts.
-/
import Derived.Test.YtifmljckmjnpfaaPctsI
import Derived.Test.YtifmljckmjnpfaaPctsS
