/- LinearEnough and the reading of arguments, together. -/
import Derived.Test.YtnmdadadjneaiaaDArgs
import Derived.Test.YtnmdadadjneaiaaDLinE
set_option linter.unusedVariables false
namespace Go.Proofs.Ytnmdadadjneaiaa.D
open Go Go.Proofs.Ytnmdadadjneaiaa.Abs Go.Proofs
theorem one_intL {h : Heap} {f : Nat} {x : AV} (H : IsTyS Try.prog h f 3 [x]) : ∃ n, x = .int .i64 n := by
 obtain ⟨n, hn⟩ := tys_int H
 cases hn
 exact ⟨n, rfl⟩
end Go.Proofs.Ytnmdadadjneaiaa.D
