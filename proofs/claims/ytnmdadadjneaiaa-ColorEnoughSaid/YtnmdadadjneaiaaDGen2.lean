/- Parts of the proof, printed. -/
import Derived.Test.YtnmdadadjneaiaaLibD
import Derived.Test.YtnmdadadjneaiaaDGen
import Derived.KernelRfl
set_option linter.unusedVariables false
set_option maxRecDepth 100000
namespace Go.Proofs.Ytnmdadadjneaiaa.D
open Go Go.Proofs.Ytnmdadadjneaiaa.Abs Abs.Sh Go.Proofs
section
variable {R : Type} (M : Mk) (C : Cal)
noncomputable section
variable (i0 : Int) (h : Heap)
theorem r21 : runE M C c21 [(.int .i64 i0)] h = (
 letK (decide (i0 = 101)) fun b4 =>
 letK (decide (i0 = 102)) fun b7 =>
 letK (if b4 = true then true else b7) fun b8 =>
 some ((.bool b8), h)
 ) := by kernel_rfl
theorem e21 : TEq (E 21 [(.int .i64 i0)] h) (r21 mk0 E i0 h) := (EV_eq (P := Try.prog) (T := T0) rfl cf21 _ h).trans (r21 mk0 E i0 h)
end
noncomputable section
variable (s0 : SA) (n0 : Nat) (h : Heap)
theorem r80 : runE M C c80 [(.sl s0 n0)] h = (
 if (SA.isNil s0) = true then
  (
  some ((.sl .nil 0), h)
  )
 else
  (
  newK h (.cells [] (.grow 1) 0) fun h_2 =>
  (ldSl h_2 s0 (n0 * 1)).bind fun y7 =>
  (apnd h_2 (.sl (.pos ⟨List.length h, 0, 0⟩) 0) 1 1 y7 n0).bind fun r7 =>
  gL (some r7.1) true fun s7 n7 =>
  some ((.sl s7 n7), r7.2)
  )
 ) := by kernel_rfl
theorem e80 : TEq (E 80 [(.sl s0 n0)] h) (r80 mk0 E s0 n0 h) := (EV_eq (P := Try.prog) (T := T0) rfl cf80 _ h).trans (r80 mk0 E s0 n0 h)
end
end
end Go.Proofs.Ytnmdadadjneaiaa.D
