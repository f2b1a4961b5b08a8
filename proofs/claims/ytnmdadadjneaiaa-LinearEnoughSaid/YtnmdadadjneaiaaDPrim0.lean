/- That the two allocations of the smallest function answer as they should, by evaluation. -/
import Derived.Test.YtnmdadadjneaiaaLibE
import Derived.Test.YtnmdadadjneaiaaDCode
set_option linter.unusedVariables false
set_option maxRecDepth 100000
namespace Go.Proofs.Ytnmdadadjneaiaa.D
open Go Go.Proofs.Ytnmdadadjneaiaa.Abs Go.Proofs
theorem alloc_run : isT (evalZ code (fun _ => none) 60 8 [] []) = true := by kernel_rfl
theorem alloc_fact : isT (evalF Try.prog (fun _ => none) 60 8 [] []) = true := isT_Z code_ok alloc_run
end Go.Proofs.Ytnmdadadjneaiaa.D
