/- SchedMeans and the reading of arguments, together. -/
import Derived.Test.YtepkdcgokedkdaaHArgs
import Derived.Test.YtepkdcgokedkdaaHMean3
