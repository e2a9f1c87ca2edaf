/-
  Valid returns.
-/
import Derived.Test.YtdhkhlemdlibfaaBatchesI
import Derived.Test.YtdhkhlemdlibfaaBatchesS
