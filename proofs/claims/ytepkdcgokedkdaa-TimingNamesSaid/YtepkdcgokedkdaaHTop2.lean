/- TimingNames and the reading of arguments, together. -/
import Derived.Test.YtepkdcgokedkdaaHArgs
import Derived.Test.YtepkdcgokedkdaaHNames
