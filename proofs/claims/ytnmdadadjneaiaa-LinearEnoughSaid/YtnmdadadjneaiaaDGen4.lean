/- Parts of the proof, printed. -/
import Derived.Test.YtnmdadadjneaiaaLibD
import Derived.Test.YtnmdadadjneaiaaDGen2
import Derived.KernelRfl
set_option linter.unusedVariables false
set_option maxRecDepth 100000
namespace Go.Proofs.Ytnmdadadjneaiaa.D
open Go Go.Proofs.Ytnmdadadjneaiaa.Abs Abs.Sh Go.Proofs
section
variable {R : Type} (M : Mk) (C : Cal)
noncomputable section
variable (i0x0 : Int) (s0x1 : SA) (n0x1 : Nat) (i0x2 : Int) (s0x3 : SA) (n0x3 : Nat) (i1x0 : Int) (s1x1 : SA) (n1x1 : Nat) (i1x2 : Int) (s1x3 : SA) (n1x3 : Nat) (s2 : SA) (n2 : Nat) (s3 : SA) (n3 : Nat) (i16 i17 : Int) (h : Heap) (Q : Kont R)
def S28xe0 : St := ⟨(.any :: .any :: (vl s2 n2::vl s3 n3::rep 26 [])), h⟩
def Q28x11 (M : Mk) (C : Cal) : Kont (AV × Heap) := (blockQ 0 (seqQ (evalE M C k28x10) (seqQ (evalE M C k28x8) (endQ [.tmp 2, .tmp 3, .tmp 4]))))
def L28x11 : Option R := loopE (evalE M C k28x11) 196622 12 ⟨.any::.box [(.int .i64 i1x0), (.sl s1x1 n1x1), (.int .i64 i1x2), (.sl s1x3 n1x3)]::vl s2 n2::vl s3 n3::rep 12 (vi i16::vi i17::rep 12 []), h⟩ Q
theorem r28 : runE M C c28 [(.agg [(.int .i64 i0x0), (.sl s0x1 n0x1), (.int .i64 i0x2), (.sl s0x3 n0x3)])] h = (
 (C 26 [(.agg [(.int .i64 i0x0), (.sl s0x1 n0x1), (.int .i64 i0x2), (.sl s0x3 n0x3)])] h).bind fun r8 =>
 gI .i64 (some r8.1) true fun i8 =>
 letK (!decide (i8 = 0)) fun b10 =>
 if b10 = true then
  (
  some (.tup [(.sl .nil 0), (.sl .nil 0), (.int .i64 i8)], r8.2)
  )
 else
  (
  (C 61 [(.agg [(.int .i64 i0x0), (.sl s0x1 n0x1), (.int .i64 i0x2), (.sl s0x3 n0x3)])] r8.2).bind fun r13 =>
  gL (some r13.1) true fun s13 n13 =>
  L28x11 M C i0x0 s0x1 n0x1 i0x2 s0x3 n0x3 s13 n13 .nil 0 (n0x3 : Int) 0 r13.2 (Q28x11 M C)
  )
 ) := by kernel_rfl
theorem e28 : TEq (E 28 [(.agg [(.int .i64 i0x0), (.sl s0x1 n0x1), (.int .i64 i0x2), (.sl s0x3 n0x3)])] h) (r28 mk0 E i0x0 s0x1 n0x1 i0x2 s0x3 n0x3 h) := (EV_eq (P := Try.prog) (T := T0) rfl cf28 _ h).trans (r28 mk0 E i0x0 s0x1 n0x1 i0x2 s0x3 n0x3 h)
theorem L28x11xaux : rnd M C k28x11 196622 12 ⟨.any::.box [(.int .i64 i1x0), (.sl s1x1 n1x1), (.int .i64 i1x2), (.sl s1x3 n1x3)]::vl s2 n2::vl s3 n3::rep 12 (vi i16::vi i17::rep 12 []), h⟩ Q = (
 letK (decide (i17 < i16)) fun b18 =>
 if b18 = true then
  (
  (C 62 [(.agg [(.int .i64 i1x0), (.sl s1x1 n1x1), (.int .i64 i1x2), (.sl s1x3 n1x3)]), (.sl s2 n2), (.int .i64 i17)] h).bind fun r24 =>
  gL (some r24.1) true fun s24 n24 =>
  newK r24.2 (.cells [(.sl s24 n24)] (.grow 1) 0) fun h_2 =>
  (ldSl h_2 (.pos ⟨List.length r24.2, 0, 0⟩) (1 * 1)).bind fun y26 =>
  (apnd h_2 (.sl s3 n3) 1 24 y26 1).bind fun r26 =>
  gL (some r26.1) true fun s26 n26 =>
  letK (IntKind.wrap .i64 (i17 + 1)) fun i27 =>
  L28x11 M C i1x0 s1x1 n1x1 i1x2 s1x3 n1x3 s2 n2 s26 n26 i16 i27 r26.2 Q
  )
 else
  (
  Q (.exit 0) (S28xe0 s2 n2 s3 n3 h)
  )
 ) := by kernel_rfl
theorem L28x11xeq : TEq (L28x11 mk0 C i1x0 s1x1 n1x1 i1x2 s1x3 n1x3 s2 n2 s3 n3 i16 i17 h Q) (L28x11xaux mk0 C i1x0 s1x1 n1x1 i1x2 s1x3 n1x3 s2 n2 s3 n3 i16 i17 h Q) := loop_te (by kernel_rfl)
theorem X28x11xe0 : Q28x11 M C (.exit 0) (S28xe0 s2 n2 s3 n3 h) = (
 some (.tup [(.sl s2 n2), (.sl s3 n3), (.int .i64 0)], h)
 ) := by kernel_rfl
end
end
end Go.Proofs.Ytnmdadadjneaiaa.D
