/- The scheduler's laws and the reading of arguments, together. -/
import Derived.Test.YtepkdcgokedkdaaHArgs
import Derived.Test.YtepkdcgokedkdaaHSOrd
