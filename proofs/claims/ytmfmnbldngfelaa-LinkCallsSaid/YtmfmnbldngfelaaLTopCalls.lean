/- LinkCalls and the reading of arguments, together. -/
import Derived.Test.YtmfmnbldngfelaaLArgs
import Derived.Test.YtmfmnbldngfelaaLCalls
