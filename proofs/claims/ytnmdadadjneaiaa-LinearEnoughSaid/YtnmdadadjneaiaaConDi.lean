/- color.coalesce: a move that is left as it is. -/
import Derived.Test.YtnmdadadjneaiaaConDh
set_option linter.unusedVariables false
set_option linter.unusedSimpArgs false
namespace Go.Proofs.Ytnmdadadjneaiaa.D
open Go Go.Proofs.Ytnmdadadjneaiaa.Abs Go.Proofs
end Go.Proofs.Ytnmdadadjneaiaa.D
/- color.coalesce: the end of a joining. -/
set_option linter.unusedVariables false
set_option linter.unusedSimpArgs false
namespace Go.Proofs.Ytnmdadadjneaiaa.D
open Go Go.Proofs.Ytnmdadadjneaiaa.Abs Go.Proofs
end Go.Proofs.Ytnmdadadjneaiaa.D
/- color.coalesce: a joining. -/
set_option linter.unusedVariables false
set_option linter.unusedSimpArgs false
namespace Go.Proofs.Ytnmdadadjneaiaa.D
open Go Go.Proofs.Ytnmdadadjneaiaa.Abs Go.Proofs
end Go.Proofs.Ytnmdadadjneaiaa.D
/- color.coalesce: a joining that is taken back. -/
set_option linter.unusedVariables false
set_option linter.unusedSimpArgs false
namespace Go.Proofs.Ytnmdadadjneaiaa.D
open Go Go.Proofs.Ytnmdadadjneaiaa.Abs Go.Proofs
end Go.Proofs.Ytnmdadadjneaiaa.D
/- color.coalesce: a joining, whole. -/
set_option linter.unusedVariables false
set_option linter.unusedSimpArgs false
namespace Go.Proofs.Ytnmdadadjneaiaa.D
open Go Go.Proofs.Ytnmdadadjneaiaa.Abs Go.Proofs
end Go.Proofs.Ytnmdadadjneaiaa.D
/- color.coalesce, plain: what a joining keeps (Briggs). -/
set_option linter.unusedVariables false
set_option linter.unusedSimpArgs false
namespace Go.Proofs.Ytnmdadadjneaiaa.D
open Go Go.Proofs.Ytnmdadadjneaiaa.Abs Go.Proofs
def want (sl th : List Bool) (r : Nat) : Prop := th[r]? = some true ∧ sl[r]? = some false
end Go.Proofs.Ytnmdadadjneaiaa.D
/- color.coalesce: all moves. -/
set_option linter.unusedVariables false
set_option linter.unusedSimpArgs false
namespace Go.Proofs.Ytnmdadadjneaiaa.D
open Go Go.Proofs.Ytnmdadadjneaiaa.Abs Go.Proofs
end Go.Proofs.Ytnmdadadjneaiaa.D
