/- Parts of the proof, printed. -/
import Derived.Test.YtnmdadadjneaiaaLibD
import Derived.Test.YtnmdadadjneaiaaDGen
import Derived.KernelRfl
set_option linter.unusedVariables false
set_option maxRecDepth 100000
namespace Go.Proofs.Ytnmdadadjneaiaa.D
open Go Go.Proofs.Ytnmdadadjneaiaa.Abs Abs.Sh Go.Proofs
section
variable {R : Type} (M : Mk) (C : Cal)
noncomputable section
variable (i0 : Int) (h : Heap)
theorem r21 : runE M C c21 [(.int .i64 i0)] h = (
 letK (decide (i0 = 101)) fun b4 =>
 letK (decide (i0 = 102)) fun b7 =>
 letK (if b4 = true then true else b7) fun b8 =>
 some ((.bool b8), h)
 ) := by kernel_rfl
theorem e21 : TEq (E 21 [(.int .i64 i0)] h) (r21 mk0 E i0 h) := (EV_eq (P := Try.prog) (T := T0) rfl cf21 _ h).trans (r21 mk0 E i0 h)
end
noncomputable section
def k33x6:=AC.ret
def k33x5:=sq (.mask 16) k33x6
def k33x4:=AC.mask 1
def k33x3:=sq (.cond (.tmp 9)
 (.seq (of [
 mv 10 0,
 mv 11 1,
 bt 12 .add 10 11,
 mv 4 12]) k33x5)
  (.skip)) k33x4
def k33x8:=AC.ret
def k33x7:=sq (.mask 16) k33x8
def k33x2:=sq (of [
 mv 13 0,
 mv 4 13]) k33x7
def k33x1:=sq (.seq (of [
 mv 8 0,
 bc 9 .lss 8 0]) k33x3) k33x2
def k33x0:=sq (of [
 mv 5 0,
 mv 6 1,
 bt 7 .rem 5 6,
 mv 0 7]) k33x1
end
noncomputable section
variable (i0 i1 : Int) (h : Heap)
def c33 : AFn := ⟨14, [.tmp 4],
 .seq (of [
 o 4 (.move (c 0))]) k33x0⟩
theorem r33 : runE M C c33 [(.int .i64 i0), (.int .i64 i1)] h = (
 chk (true = true → i1 ≠ 0) <|
 letK (Int.tmod i0 i1) fun i7 =>
 letK (decide (i7 < 0)) fun b9 =>
 if b9 = true then
  (
  letK (IntKind.wrap .i64 (i7 + i1)) fun i12 =>
  some ((.int .i64 i12), h)
  )
 else
  (
  some ((.int .i64 i7), h)
  )
 ) := by kernel_rfl
theorem cf33 : cFn Try.prog 33 = some c33 := by kernel_rfl
theorem e33 : TEq (E 33 [(.int .i64 i0), (.int .i64 i1)] h) (r33 mk0 E i0 i1 h) := (EV_eq (P := Try.prog) (T := T0) rfl cf33 _ h).trans (r33 mk0 E i0 i1 h)
end
noncomputable section
def k11x2:=AC.ret
def k11x1:=sq (.mask 16) k11x2
def k11x0:=sq (of [
 mv 5 0,
 mv 6 1,
 o 7 (.call 33 [(t 5), (t 6)] [I] (.int .i64 0)),
 mv 4 7]) k11x1
end
noncomputable section
variable (i0 i1 : Int) (h : Heap)
def c11 : AFn := ⟨8, [.tmp 4],
 .seq (of [
 o 4 (.move (c 0))]) k11x0⟩
theorem r11 : runE M C c11 [(.int .i64 i0), (.int .i64 i1)] h = (
 (C 33 [(.int .i64 i0), (.int .i64 i1)] h).bind fun r7 =>
 gI .i64 (some r7.1) true fun i7 =>
 some ((.int .i64 i7), r7.2)
 ) := by kernel_rfl
theorem cf11 : cFn Try.prog 11 = some c11 := by kernel_rfl
theorem e11 : TEq (E 11 [(.int .i64 i0), (.int .i64 i1)] h) (r11 mk0 E i0 i1 h) := (EV_eq (P := Try.prog) (T := T0) rfl cf11 _ h).trans (r11 mk0 E i0 i1 h)
end
end
end Go.Proofs.Ytnmdadadjneaiaa.D
