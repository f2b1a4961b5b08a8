/- alloccheck: what accepts means; the states of all blocks in memory; the list of work. -/
import Derived.Test.YtnmdadadjneaiaaConDc
set_option linter.unusedVariables false
set_option linter.unusedSimpArgs false
namespace Go.Proofs.Ytnmdadadjneaiaa.D
open Go Go.Proofs.Ytnmdadadjneaiaa.Abs Go.Proofs
def wt (P n : Nat) : Option Mt → Nat
 | none => P * n + 1
 | some m => P * n - offsL m.L
end Go.Proofs.Ytnmdadadjneaiaa.D
/- alloccheck: the ends of a block are carried on. -/
set_option linter.unusedVariables false
set_option linter.unusedSimpArgs false
namespace Go.Proofs.Ytnmdadadjneaiaa.D
open Go Go.Proofs.Ytnmdadadjneaiaa.Abs Go.Proofs
end Go.Proofs.Ytnmdadadjneaiaa.D
/- alloccheck.Accept. -/
set_option linter.unusedVariables false
set_option linter.unusedSimpArgs false
namespace Go.Proofs.Ytnmdadadjneaiaa.D
open Go Go.Proofs.Ytnmdadadjneaiaa.Abs Go.Proofs
end Go.Proofs.Ytnmdadadjneaiaa.D
/- alloccheck.Accept, whole. -/
set_option linter.unusedVariables false
set_option linter.unusedSimpArgs false
namespace Go.Proofs.Ytnmdadadjneaiaa.D
open Go Go.Proofs.Ytnmdadadjneaiaa.Abs Go.Proofs
end Go.Proofs.Ytnmdadadjneaiaa.D
