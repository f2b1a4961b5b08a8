/- AlloccheckMeans and the reading of arguments, together. -/
import Derived.Test.YtnmdadadjneaiaaDArgs
import Derived.Test.YtnmdadadjneaiaaConDm
set_option linter.unusedVariables false
namespace Go.Proofs.Ytnmdadadjneaiaa.D
open Go Go.Proofs.Ytnmdadadjneaiaa.Abs Go.Proofs
theorem one_ints {h : Heap} {f : Nat} {x : AV} (H : IsTyS Try.prog h f 22 [x]) : ∃ s l, x = .sl s l.length ∧ VS intC 1 h s l.length l ∧ l.length ≤ 140737488355328 := by
 obtain ⟨s, l, h1, h2, h3⟩ := tys_ints H
 cases h1
 exact ⟨s, l, rfl, h2, h3⟩
end Go.Proofs.Ytnmdadadjneaiaa.D
