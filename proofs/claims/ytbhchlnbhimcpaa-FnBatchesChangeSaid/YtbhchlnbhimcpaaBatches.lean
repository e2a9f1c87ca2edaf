/-
  Valid returns.
-/
import Derived.Test.YtbhchlnbhimcpaaBatchesI
import Derived.Test.YtbhchlnbhimcpaaBatchesS
