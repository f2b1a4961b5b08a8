/- ColorEnough and the reading of arguments, together. -/
import Derived.Test.YtnmdadadjneaiaaDArgs
import Derived.Test.YtnmdadadjneaiaaDInter
