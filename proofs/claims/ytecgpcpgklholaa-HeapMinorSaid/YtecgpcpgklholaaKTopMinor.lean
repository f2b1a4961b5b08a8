/- HeapMinor and the reading of arguments, together. -/
import Derived.Test.YtecgpcpgklholaaKArgs
import Derived.Test.YtecgpcpgklholaaKMinor
