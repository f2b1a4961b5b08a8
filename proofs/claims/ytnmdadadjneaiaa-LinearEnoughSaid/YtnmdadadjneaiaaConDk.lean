/- Who is live where: ways to a use, and the least lists of marks. -/
import Derived.Test.YtnmdadadjneaiaaConDj
set_option linter.unusedVariables false
set_option linter.unusedSimpArgs false
namespace Go.Proofs.Ytnmdadadjneaiaa.D
open Go Go.Proofs.Ytnmdadadjneaiaa.Abs Go.Proofs
end Go.Proofs.Ytnmdadadjneaiaa.D
/- color.build, plain: what it knows at the end. -/
set_option linter.unusedVariables false
set_option linter.unusedSimpArgs false
namespace Go.Proofs.Ytnmdadadjneaiaa.D
open Go Go.Proofs.Ytnmdadadjneaiaa.Abs Go.Proofs
end Go.Proofs.Ytnmdadadjneaiaa.D
