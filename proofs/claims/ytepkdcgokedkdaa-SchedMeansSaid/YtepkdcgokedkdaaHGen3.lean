/- Parts of the proof, printed. -/
import Derived.Test.YtepkdcgokedkdaaHGen2
import Derived.KernelRfl
set_option linter.unusedVariables false
set_option maxRecDepth 100000
namespace Go.Proofs.Ytepkdcgokedkdaa.H
open Go Go.Proofs.Ytepkdcgokedkdaa.Abs Go.Proofs
section
variable {R : Type} (M : Mk) (C : Cal)
def k33x2 : AC := .ret
def k33x1 : AC := .seq (.mask 4) k33x2
def k33x0 : AC := .seq (.ops true [
    ⟨(some 3), .move (.tmp 0), none, []⟩,
    ⟨(some 4), .bin .other .eql (.tmp 3) (.c (.int .i64 14)), none, []⟩,
    ⟨(some 5), .move (.tmp 4), none, []⟩,
    ⟨(some 6), .move (.tmp 0), (some (5, false)), []⟩,
    ⟨(some 7), .bin .other .eql (.tmp 6) (.c (.int .i64 15)), (some (5, false)), []⟩,
    ⟨(some 8), .pick (.tmp 5) (.c (.bool true)) (.tmp 7), none, []⟩,
    ⟨(some 9), .move (.tmp 8), none, []⟩,
    ⟨(some 10), .move (.tmp 0), (some (9, false)), []⟩,
    ⟨(some 11), .bin .other .eql (.tmp 10) (.c (.int .i64 23)), (some (9, false)), []⟩,
    ⟨(some 12), .pick (.tmp 9) (.c (.bool true)) (.tmp 11), none, []⟩,
    ⟨(some 13), .move (.tmp 12), none, []⟩,
    ⟨(some 14), .move (.tmp 0), (some (13, false)), []⟩,
    ⟨(some 15), .bin .other .eql (.tmp 14) (.c (.int .i64 4)), (some (13, false)), []⟩,
    ⟨(some 16), .pick (.tmp 13) (.c (.bool true)) (.tmp 15), none, []⟩,
    ⟨(some 17), .move (.tmp 16), none, []⟩,
    ⟨(some 18), .move (.tmp 0), (some (17, false)), []⟩,
    ⟨(some 19), .bin .other .eql (.tmp 18) (.c (.int .i64 5)), (some (17, false)), []⟩,
    ⟨(some 20), .pick (.tmp 17) (.c (.bool true)) (.tmp 19), none, []⟩,
    ⟨(some 2), .move (.tmp 20), none, []⟩]) k33x1
/-- provenance/sched.barrier -/
def c33 : AFn := ⟨21, [.tmp 2],
  .seq (.ops false [
    ⟨(some 2), .move (.c (.bool false)), none, []⟩]) k33x0⟩
theorem r33 (i0 : Int) (h : Heap) : runE M C c33 [(.int .i64 i0)] h = (
  letK ((decide ((i0 : Int) = 14)) : Bool) fun b4 =>
  letK ((decide ((i0 : Int) = 15)) : Bool) fun b7 =>
  letK ((if b4 = true then true else b7) : Bool) fun b8 =>
  letK ((decide ((i0 : Int) = 23)) : Bool) fun b11 =>
  letK ((if b8 = true then true else b11) : Bool) fun b12 =>
  letK ((decide ((i0 : Int) = 4)) : Bool) fun b15 =>
  letK ((if b12 = true then true else b15) : Bool) fun b16 =>
  letK ((decide ((i0 : Int) = 5)) : Bool) fun b19 =>
  letK ((if b16 = true then true else b19) : Bool) fun b20 =>
  some ((.bool b20), h)
  ) := by kernel_rfl
theorem cf33 : cFn Try.prog 33 = some c33 := by kernel_rfl
theorem e33 (i0 : Int) (h : Heap) : E 33 [(.int .i64 i0)] h = (
  letK ((decide ((i0 : Int) = 14)) : Bool) fun b4 =>
  letK ((decide ((i0 : Int) = 15)) : Bool) fun b7 =>
  letK ((if b4 = true then true else b7) : Bool) fun b8 =>
  letK ((decide ((i0 : Int) = 23)) : Bool) fun b11 =>
  letK ((if b8 = true then true else b11) : Bool) fun b12 =>
  letK ((decide ((i0 : Int) = 4)) : Bool) fun b15 =>
  letK ((if b12 = true then true else b15) : Bool) fun b16 =>
  letK ((decide ((i0 : Int) = 5)) : Bool) fun b19 =>
  letK ((if b16 = true then true else b19) : Bool) fun b20 =>
  some ((.bool b20), h)
  ) := (EV_eq (P := Try.prog) (T := T0) rfl cf33 [(.int .i64 i0)] h).trans (r33 mk0 E i0 h)
def k36x2 : AC := .ret
def k36x1 : AC := .seq (.mask 4) k36x2
def k36x0 : AC := .seq (.ops true [
    ⟨(some 3), .move (.tmp 0), none, []⟩,
    ⟨(some 4), .bin .other .eql (.tmp 3) (.c (.int .i64 12)), none, []⟩,
    ⟨(some 5), .move (.tmp 4), none, []⟩,
    ⟨(some 6), .move (.tmp 0), (some (5, false)), []⟩,
    ⟨(some 7), .bin .other .eql (.tmp 6) (.c (.int .i64 13)), (some (5, false)), []⟩,
    ⟨(some 8), .pick (.tmp 5) (.c (.bool true)) (.tmp 7), none, []⟩,
    ⟨(some 2), .move (.tmp 8), none, []⟩]) k36x1
/-- provenance/sched.memory -/
def c36 : AFn := ⟨9, [.tmp 2],
  .seq (.ops false [
    ⟨(some 2), .move (.c (.bool false)), none, []⟩]) k36x0⟩
theorem r36 (i0 : Int) (h : Heap) : runE M C c36 [(.int .i64 i0)] h = (
  letK ((decide ((i0 : Int) = 12)) : Bool) fun b4 =>
  letK ((decide ((i0 : Int) = 13)) : Bool) fun b7 =>
  letK ((if b4 = true then true else b7) : Bool) fun b8 =>
  some ((.bool b8), h)
  ) := by kernel_rfl
theorem cf36 : cFn Try.prog 36 = some c36 := by kernel_rfl
theorem e36 (i0 : Int) (h : Heap) : E 36 [(.int .i64 i0)] h = (
  letK ((decide ((i0 : Int) = 12)) : Bool) fun b4 =>
  letK ((decide ((i0 : Int) = 13)) : Bool) fun b7 =>
  letK ((if b4 = true then true else b7) : Bool) fun b8 =>
  some ((.bool b8), h)
  ) := (EV_eq (P := Try.prog) (T := T0) rfl cf36 [(.int .i64 i0)] h).trans (r36 mk0 E i0 h)
def k23x5 : AC := .ret
def k23x4 : AC := .seq (.mask 16) k23x5
def k23x3 : AC := .mask 12
def k23x2 : AC := .seq (.cond (.tmp 18)
   (.seq (.ops false [
      ⟨(some 4), .move (.c (.bool true)), none, []⟩]) k23x4)
   (.skip)) k23x3
def k23x11 : AC := .ret
def k23x10 : AC := .seq (.mask 16) k23x11
def k23x9 : AC := .mask 108
def k23x8 : AC := .seq (.cond (.tmp 29)
   (.seq (.ops false [
      ⟨(some 4), .move (.c (.bool true)), none, []⟩]) k23x10)
   (.skip)) k23x9
def k23x19 : AC := .exit 0
def k23x18 : AC := .mask 15032385644
def k23x26 : AC := .ret
def k23x25 : AC := .seq (.mask 16) k23x26
def k23x24 : AC := .mask 15032385644
def k23x23 : AC := .seq (.cond (.tmp 39)
   (.seq (.ops false [
      ⟨(some 4), .move (.c (.bool true)), none, []⟩]) k23x25)
   (.skip)) k23x24
def k23x22 : AC := .seq (.ops false [
    ⟨(some 37), .move (.tmp 8), none, []⟩,
    ⟨(some 38), .move (.tmp 5), none, []⟩,
    ⟨(some 39), .bin .other .eql (.tmp 37) (.tmp 38), none, []⟩]) k23x23
def k23x21 : AC := .mask 15032385644
def k23x20 : AC := .ops false [
    ⟨(some 40), .bin .other .add (.tmp 33) (.c (.int .i64 1)), none, []⟩,
    ⟨(some 33), .move (.tmp 40), none, []⟩]
def k23x17 : AC := .seq (.seq (.block 1 (.seq (.ops false [
     ⟨(some 35), .indexAddr 1 (.tmp 31) (.tmp 33), none, []⟩,
     ⟨(some 36), .load (.cell (.int .i64)) (.tmp 35), none, []⟩,
     ⟨(some 8), .move (.tmp 36), none, []⟩]) k23x22)) k23x21) k23x20
def k23x16 : AC := .seq (.seq (.cond (.tmp 34)
   (.skip)
   (.seq (.mask 76) k23x19)) k23x18) k23x17
def k23x15 : AC := .seq (.ops false [
    ⟨(some 34), .bin .other .lss (.tmp 33) (.tmp 32), none, []⟩]) k23x16
def k23x14 : AC := .mask 76
def k23x13 : AC := .seq (.block 0 (.loop 15032385644 76 k23x15)) k23x14
def k23x34 : AC := .exit 2
def k23x33 : AC := .mask 30786325577804
def k23x41 : AC := .ret
def k23x40 : AC := .seq (.mask 16) k23x41
def k23x39 : AC := .mask 30786325577804
def k23x38 : AC := .seq (.cond (.tmp 50)
   (.seq (.ops false [
      ⟨(some 4), .move (.c (.bool true)), none, []⟩]) k23x40)
   (.skip)) k23x39
def k23x37 : AC := .seq (.ops false [
    ⟨(some 48), .move (.tmp 10), none, []⟩,
    ⟨(some 49), .move (.tmp 6), none, []⟩,
    ⟨(some 50), .bin .other .eql (.tmp 48) (.tmp 49), none, []⟩]) k23x38
def k23x36 : AC := .mask 30786325577804
def k23x35 : AC := .ops false [
    ⟨(some 51), .bin .other .add (.tmp 44) (.c (.int .i64 1)), none, []⟩,
    ⟨(some 44), .move (.tmp 51), none, []⟩]
def k23x32 : AC := .seq (.seq (.block 3 (.seq (.ops false [
     ⟨(some 46), .indexAddr 1 (.tmp 42) (.tmp 44), none, []⟩,
     ⟨(some 47), .load (.cell (.int .i64)) (.tmp 46), none, []⟩,
     ⟨(some 10), .move (.tmp 47), none, []⟩]) k23x37)) k23x36) k23x35
def k23x31 : AC := .seq (.seq (.cond (.tmp 45)
   (.skip)
   (.seq (.mask 12) k23x34)) k23x33) k23x32
def k23x30 : AC := .seq (.ops false [
    ⟨(some 45), .bin .other .lss (.tmp 44) (.tmp 43), none, []⟩]) k23x31
def k23x29 : AC := .mask 12
def k23x28 : AC := .seq (.block 2 (.loop 30786325577804 12 k23x30)) k23x29
def k23x43 : AC := .ret
def k23x42 : AC := .seq (.mask 16) k23x43
def k23x27 : AC := .seq (.ops true [
    ⟨(some 52), .fieldAddr 0 (.tmp 2), none, []⟩,
    ⟨(some 53), .load (.cell (.int .i64)) (.tmp 52), none, []⟩,
    ⟨(some 54), .call 36 [(.tmp 53)] [(.cell .bool)] (.bool false), none, []⟩,
    ⟨(some 55), .move (.tmp 54), none, []⟩,
    ⟨(some 56), .fieldAddr 0 (.tmp 3), (some (55, true)), []⟩,
    ⟨(some 57), .load (.cell (.int .i64)) (.tmp 56), (some (55, true)), []⟩,
    ⟨(some 58), .call 36 [(.tmp 57)] [(.cell .bool)] (.bool false), (some (55, true)), []⟩,
    ⟨(some 59), .pick (.tmp 55) (.tmp 58) (.c (.bool false)), none, []⟩,
    ⟨(some 4), .move (.tmp 59), none, []⟩]) k23x42
def k23x12 : AC := .seq (.seq (.ops false [
    ⟨(some 41), .load (.agg [(.int .i64), (.int .i64), (.int .i64), (.int .i64), (.int .i64)]) (.tmp 2), none, []⟩,
    ⟨(some 42), .call 35 [(.tmp 41)] [(.cell .sl)] (.sl .nil 0), none, []⟩,
    ⟨(some 43), .lenSl (.tmp 42), none, []⟩,
    ⟨(some 44), .move (.c (.int .i64 0)), none, []⟩]) k23x28) k23x27
def k23x7 : AC := .seq (.seq (.ops false [
    ⟨(some 30), .load (.agg [(.int .i64), (.int .i64), (.int .i64), (.int .i64), (.int .i64)]) (.tmp 3), none, []⟩,
    ⟨(some 31), .call 35 [(.tmp 30)] [(.cell .sl)] (.sl .nil 0), none, []⟩,
    ⟨(some 32), .lenSl (.tmp 31), none, []⟩,
    ⟨(some 33), .move (.c (.int .i64 0)), none, []⟩]) k23x13) k23x12
def k23x6 : AC := .seq (.seq (.ops true [
    ⟨(some 23), .move (.tmp 5), none, []⟩,
    ⟨(some 24), .bin .other .neq (.tmp 23) (.c (.int .i64 0)), none, []⟩,
    ⟨(some 25), .move (.tmp 24), none, []⟩,
    ⟨(some 26), .move (.tmp 5), (some (25, true)), []⟩,
    ⟨(some 27), .move (.tmp 6), (some (25, true)), []⟩,
    ⟨(some 28), .bin .other .eql (.tmp 26) (.tmp 27), (some (25, true)), []⟩,
    ⟨(some 29), .pick (.tmp 25) (.tmp 28) (.c (.bool false)), none, []⟩]) k23x8) k23x7
def k23x1 : AC := .seq (.ops false [
    ⟨(some 19), .load (.agg [(.int .i64), (.int .i64), (.int .i64), (.int .i64), (.int .i64)]) (.tmp 2), none, []⟩,
    ⟨(some 21), .load (.agg [(.int .i64), (.int .i64), (.int .i64), (.int .i64), (.int .i64)]) (.tmp 3), none, []⟩,
    ⟨(some 20), .call 34 [(.tmp 19)] [(.cell (.int .i64))] (.int .i64 0), none, [.load 5 3 none]⟩,
    ⟨(some 22), .call 34 [(.tmp 21)] [(.cell (.int .i64))] (.int .i64 0), none, []⟩,
    ⟨(some 5), .move (.tmp 20), none, []⟩,
    ⟨(some 6), .move (.tmp 22), none, []⟩]) k23x6
def k23x0 : AC := .seq (.seq (.ops true [
    ⟨(some 11), .fieldAddr 0 (.tmp 2), none, []⟩,
    ⟨(some 12), .load (.cell (.int .i64)) (.tmp 11), none, []⟩,
    ⟨(some 13), .call 33 [(.tmp 12)] [(.cell .bool)] (.bool false), none, []⟩,
    ⟨(some 14), .move (.tmp 13), none, []⟩,
    ⟨(some 15), .fieldAddr 0 (.tmp 3), (some (14, false)), []⟩,
    ⟨(some 16), .load (.cell (.int .i64)) (.tmp 15), (some (14, false)), []⟩,
    ⟨(some 17), .call 33 [(.tmp 16)] [(.cell .bool)] (.bool false), (some (14, false)), []⟩,
    ⟨(some 18), .pick (.tmp 14) (.c (.bool true)) (.tmp 17), none, []⟩]) k23x2) k23x1
/-- provenance/sched.Depends -/
def c23 : AFn := ⟨60, [.tmp 4],
  .seq (.ops false [
    ⟨(some 2), .boxL (.tmp 0), none, []⟩,
    ⟨(some 3), .boxL (.tmp 1), none, []⟩,
    ⟨(some 4), .move (.c (.bool false)), none, []⟩]) k23x0⟩
def S23xr (b4 : Bool) (h : Heap) : St := ⟨(rep 4 (.g [] true (.bool b4) :: (rep 55 []))), h⟩
def S23xe0 (i2x0 : Int) (i2x1 : Int) (i2x2 : Int) (i2x3 : Int) (i2x4 : Int) (i3x0 : Int) (i3x1 : Int) (i3x2 : Int) (i3x3 : Int) (i3x4 : Int) (i6 : Int) (h : Heap) : St := ⟨(.any :: .any :: (.box [(.int .i64 i2x0), (.int .i64 i2x1), (.int .i64 i2x2), (.int .i64 i2x3), (.int .i64 i2x4)] :: (.box [(.int .i64 i3x0), (.int .i64 i3x1), (.int .i64 i3x2), (.int .i64 i3x3), (.int .i64 i3x4)] :: (.any :: .any :: (.g [] true (.int .i64 i6) :: (rep 53 [])))))), h⟩
def S23xe2 (i2x0 : Int) (i2x1 : Int) (i2x2 : Int) (i2x3 : Int) (i2x4 : Int) (i3x0 : Int) (i3x1 : Int) (i3x2 : Int) (i3x3 : Int) (i3x4 : Int) (h : Heap) : St := ⟨(.any :: .any :: (.box [(.int .i64 i2x0), (.int .i64 i2x1), (.int .i64 i2x2), (.int .i64 i2x3), (.int .i64 i2x4)] :: (.box [(.int .i64 i3x0), (.int .i64 i3x1), (.int .i64 i3x2), (.int .i64 i3x3), (.int .i64 i3x4)] :: (rep 56 [])))), h⟩
noncomputable def Q23x15 (M : Mk) (C : Cal) : Kont (AV × Heap) := (blockQ 0 (seqQ (evalE M C k23x14) (seqQ (evalE M C k23x12) (endQ [.tmp 4]))))
noncomputable def L23x15 (i2x0 : Int) (i2x1 : Int) (i2x2 : Int) (i2x3 : Int) (i2x4 : Int) (i3x0 : Int) (i3x1 : Int) (i3x2 : Int) (i3x3 : Int) (i3x4 : Int) (i5 : Int) (i6 : Int) (s31 : SA) (n31 : Nat) (i32 : Int) (i33 : Int) (h : Heap) (Q : Kont R) : Option R := loopE (evalE M C k23x15) 15032385644 76 ⟨(.any :: .any :: (.box [(.int .i64 i2x0), (.int .i64 i2x1), (.int .i64 i2x2), (.int .i64 i2x3), (.int .i64 i2x4)] :: (.box [(.int .i64 i3x0), (.int .i64 i3x1), (.int .i64 i3x2), (.int .i64 i3x3), (.int .i64 i3x4)] :: (.any :: (.g [] true (.int .i64 i5) :: (.g [] true (.int .i64 i6) :: (rep 24 (.g [] true (.sl s31 n31) :: (.g [] true (.int .i64 i32) :: (.g [] true (.int .i64 i33) :: (rep 26 []))))))))))), h⟩ Q
noncomputable def Q23x30 (M : Mk) (C : Cal) : Kont (AV × Heap) := (blockQ 2 (seqQ (evalE M C k23x29) (seqQ (evalE M C k23x27) (endQ [.tmp 4]))))
noncomputable def L23x30 (i2x0 : Int) (i2x1 : Int) (i2x2 : Int) (i2x3 : Int) (i2x4 : Int) (i3x0 : Int) (i3x1 : Int) (i3x2 : Int) (i3x3 : Int) (i3x4 : Int) (i6 : Int) (s42 : SA) (n42 : Nat) (i43 : Int) (i44 : Int) (h : Heap) (Q : Kont R) : Option R := loopE (evalE M C k23x30) 30786325577804 12 ⟨(.any :: .any :: (.box [(.int .i64 i2x0), (.int .i64 i2x1), (.int .i64 i2x2), (.int .i64 i2x3), (.int .i64 i2x4)] :: (.box [(.int .i64 i3x0), (.int .i64 i3x1), (.int .i64 i3x2), (.int .i64 i3x3), (.int .i64 i3x4)] :: (.any :: .any :: (.g [] true (.int .i64 i6) :: (rep 35 (.g [] true (.sl s42 n42) :: (.g [] true (.int .i64 i43) :: (.g [] true (.int .i64 i44) :: (rep 15 [])))))))))), h⟩ Q
theorem r23 (i0x0 : Int) (i0x1 : Int) (i0x2 : Int) (i0x3 : Int) (i0x4 : Int) (i1x0 : Int) (i1x1 : Int) (i1x2 : Int) (i1x3 : Int) (i1x4 : Int) (h : Heap) : runE M C c23 [(.agg [(.int .i64 i0x0), (.int .i64 i0x1), (.int .i64 i0x2), (.int .i64 i0x3), (.int .i64 i0x4)]), (.agg [(.int .i64 i1x0), (.int .i64 i1x1), (.int .i64 i1x2), (.int .i64 i1x3), (.int .i64 i1x4)])] h = (
  (C 33 [(.int .i64 i0x0)] h).bind fun r13 =>
  gB (some r13.1) true fun b13 =>
  gI .i64 (some (.int .i64 i1x0)) (!b13) fun i16 =>
  (callO (!b13) (C 33 [(.int .i64 i16)] r13.2) (.bool false) r13.2).bind fun r17 =>
  gB (some r17.1) (!b13) fun b17 =>
  letK ((if b13 = true then true else b17) : Bool) fun b18 =>
  if b18 = true then
    (
    some ((.bool true), r17.2)
    )
  else
    (
    (C 34 [(.agg [(.int .i64 i0x0), (.int .i64 i0x1), (.int .i64 i0x2), (.int .i64 i0x3), (.int .i64 i0x4)])] r17.2).bind fun r20 =>
    gI .i64 (some r20.1) true fun i20 =>
    (C 34 [(.agg [(.int .i64 i1x0), (.int .i64 i1x1), (.int .i64 i1x2), (.int .i64 i1x3), (.int .i64 i1x4)])] r20.2).bind fun r22 =>
    gI .i64 (some r22.1) true fun i22 =>
    letK ((!decide ((i20 : Int) = 0)) : Bool) fun b24 =>
    letK ((decide ((i20 : Int) = i22)) : Bool) fun b28 =>
    letK ((if b24 = true then b28 else false) : Bool) fun b29 =>
    if b29 = true then
      (
      some ((.bool true), r22.2)
      )
    else
      (
      (C 35 [(.agg [(.int .i64 i1x0), (.int .i64 i1x1), (.int .i64 i1x2), (.int .i64 i1x3), (.int .i64 i1x4)])] r22.2).bind fun r31 =>
      gL (some r31.1) true fun s31 n31 =>
      L23x15 M C i0x0 i0x1 i0x2 i0x3 i0x4 i1x0 i1x1 i1x2 i1x3 i1x4 i20 i22 s31 n31 ((n31 : Nat) : Int) 0 r31.2 (Q23x15 M C)
      )
    )
  ) := by kernel_rfl
theorem cf23 : cFn Try.prog 23 = some c23 := by kernel_rfl
theorem e23 (i0x0 : Int) (i0x1 : Int) (i0x2 : Int) (i0x3 : Int) (i0x4 : Int) (i1x0 : Int) (i1x1 : Int) (i1x2 : Int) (i1x3 : Int) (i1x4 : Int) (h : Heap) : E 23 [(.agg [(.int .i64 i0x0), (.int .i64 i0x1), (.int .i64 i0x2), (.int .i64 i0x3), (.int .i64 i0x4)]), (.agg [(.int .i64 i1x0), (.int .i64 i1x1), (.int .i64 i1x2), (.int .i64 i1x3), (.int .i64 i1x4)])] h = (
  (E 33 [(.int .i64 i0x0)] h).bind fun r13 =>
  gB (some r13.1) true fun b13 =>
  gI .i64 (some (.int .i64 i1x0)) (!b13) fun i16 =>
  (callO (!b13) (E 33 [(.int .i64 i16)] r13.2) (.bool false) r13.2).bind fun r17 =>
  gB (some r17.1) (!b13) fun b17 =>
  letK ((if b13 = true then true else b17) : Bool) fun b18 =>
  if b18 = true then
    (
    some ((.bool true), r17.2)
    )
  else
    (
    (E 34 [(.agg [(.int .i64 i0x0), (.int .i64 i0x1), (.int .i64 i0x2), (.int .i64 i0x3), (.int .i64 i0x4)])] r17.2).bind fun r20 =>
    gI .i64 (some r20.1) true fun i20 =>
    (E 34 [(.agg [(.int .i64 i1x0), (.int .i64 i1x1), (.int .i64 i1x2), (.int .i64 i1x3), (.int .i64 i1x4)])] r20.2).bind fun r22 =>
    gI .i64 (some r22.1) true fun i22 =>
    letK ((!decide ((i20 : Int) = 0)) : Bool) fun b24 =>
    letK ((decide ((i20 : Int) = i22)) : Bool) fun b28 =>
    letK ((if b24 = true then b28 else false) : Bool) fun b29 =>
    if b29 = true then
      (
      some ((.bool true), r22.2)
      )
    else
      (
      (E 35 [(.agg [(.int .i64 i1x0), (.int .i64 i1x1), (.int .i64 i1x2), (.int .i64 i1x3), (.int .i64 i1x4)])] r22.2).bind fun r31 =>
      gL (some r31.1) true fun s31 n31 =>
      L23x15 mk0 E i0x0 i0x1 i0x2 i0x3 i0x4 i1x0 i1x1 i1x2 i1x3 i1x4 i20 i22 s31 n31 ((n31 : Nat) : Int) 0 r31.2 (Q23x15 mk0 E)
      )
    )
  ) := (EV_eq (P := Try.prog) (T := T0) rfl cf23 [(.agg [(.int .i64 i0x0), (.int .i64 i0x1), (.int .i64 i0x2), (.int .i64 i0x3), (.int .i64 i0x4)]), (.agg [(.int .i64 i1x0), (.int .i64 i1x1), (.int .i64 i1x2), (.int .i64 i1x3), (.int .i64 i1x4)])] h).trans (r23 mk0 E i0x0 i0x1 i0x2 i0x3 i0x4 i1x0 i1x1 i1x2 i1x3 i1x4 h)
theorem L23x15xaux (i2x0 : Int) (i2x1 : Int) (i2x2 : Int) (i2x3 : Int) (i2x4 : Int) (i3x0 : Int) (i3x1 : Int) (i3x2 : Int) (i3x3 : Int) (i3x4 : Int) (i5 : Int) (i6 : Int) (s31 : SA) (n31 : Nat) (i32 : Int) (i33 : Int) (h : Heap) (Q : Kont R) : (restrF 15032385644 ⟨(.any :: .any :: (.box [(.int .i64 i2x0), (.int .i64 i2x1), (.int .i64 i2x2), (.int .i64 i2x3), (.int .i64 i2x4)] :: (.box [(.int .i64 i3x0), (.int .i64 i3x1), (.int .i64 i3x2), (.int .i64 i3x3), (.int .i64 i3x4)] :: (.any :: (.g [] true (.int .i64 i5) :: (.g [] true (.int .i64 i6) :: (rep 24 (.g [] true (.sl s31 n31) :: (.g [] true (.int .i64 i32) :: (.g [] true (.int .i64 i33) :: (rep 26 []))))))))))), h⟩ fun σ => evalE M C k23x15 σ (roundQ M C k23x15 15032385644 76 Q)) = (
  letK ((decide ((i33 : Int) < i32)) : Bool) fun b34 =>
  if b34 = true then
    (
    chk (true = true → (0 : Int) ≤ i33 ∧ (i33 : Int) < ((n31 : Nat) : Int)) <|
    atP (adP s31) true fun a35 =>
    gI .i64 (ld1 h (Ad.add a35 (Int.toNat i33 * 1))) true fun i36 =>
    letK ((decide ((i36 : Int) = i5)) : Bool) fun b39 =>
    if b39 = true then
      (
      Q .ret (S23xr true h)
      )
    else
      (
      letK ((IntKind.wrap .i64 (i33 + 1)) : Int) fun i40 =>
      L23x15 M C i2x0 i2x1 i2x2 i2x3 i2x4 i3x0 i3x1 i3x2 i3x3 i3x4 i5 i6 s31 n31 i32 i40 h Q
      )
    )
  else
    (
    Q (.exit 0) (S23xe0 i2x0 i2x1 i2x2 i2x3 i2x4 i3x0 i3x1 i3x2 i3x3 i3x4 i6 h)
    )
  ) := by kernel_rfl
theorem L23x15xeq (i2x0 : Int) (i2x1 : Int) (i2x2 : Int) (i2x3 : Int) (i2x4 : Int) (i3x0 : Int) (i3x1 : Int) (i3x2 : Int) (i3x3 : Int) (i3x4 : Int) (i5 : Int) (i6 : Int) (s31 : SA) (n31 : Nat) (i32 : Int) (i33 : Int) (h : Heap) (Q : Kont R) : L23x15 mk0 C i2x0 i2x1 i2x2 i2x3 i2x4 i3x0 i3x1 i3x2 i3x3 i3x4 i5 i6 s31 n31 i32 i33 h Q = (
  letK ((decide ((i33 : Int) < i32)) : Bool) fun b34 =>
  if b34 = true then
    (
    chk (true = true → (0 : Int) ≤ i33 ∧ (i33 : Int) < ((n31 : Nat) : Int)) <|
    atP (adP s31) true fun a35 =>
    gI .i64 (ld1 h (Ad.add a35 (Int.toNat i33 * 1))) true fun i36 =>
    letK ((decide ((i36 : Int) = i5)) : Bool) fun b39 =>
    if b39 = true then
      (
      Q .ret (S23xr true h)
      )
    else
      (
      letK ((IntKind.wrap .i64 (i33 + 1)) : Int) fun i40 =>
      L23x15 mk0 C i2x0 i2x1 i2x2 i2x3 i2x4 i3x0 i3x1 i3x2 i3x3 i3x4 i5 i6 s31 n31 i32 i40 h Q
      )
    )
  else
    (
    Q (.exit 0) (S23xe0 i2x0 i2x1 i2x2 i2x3 i2x4 i3x0 i3x1 i3x2 i3x3 i3x4 i6 h)
    )
  ) := loop_eqn C k23x15 15032385644 76 (.any :: .any :: (.box [(.int .i64 i2x0), (.int .i64 i2x1), (.int .i64 i2x2), (.int .i64 i2x3), (.int .i64 i2x4)] :: (.box [(.int .i64 i3x0), (.int .i64 i3x1), (.int .i64 i3x2), (.int .i64 i3x3), (.int .i64 i3x4)] :: (.any :: (.g [] true (.int .i64 i5) :: (.g [] true (.int .i64 i6) :: (rep 24 (.g [] true (.sl s31 n31) :: (.g [] true (.int .i64 i32) :: (.g [] true (.int .i64 i33) :: (rep 26 []))))))))))) h Q (by kernel_rfl) (L23x15xaux mk0 C i2x0 i2x1 i2x2 i2x3 i2x4 i3x0 i3x1 i3x2 i3x3 i3x4 i5 i6 s31 n31 i32 i33 h Q)
theorem X23x15xr (M : Mk) (C : Cal) (b4 : Bool) (h : Heap) : Q23x15 M C .ret (S23xr b4 h) = (
  some ((.bool b4), h)
  ) := by kernel_rfl
theorem X23x15xe0 (M : Mk) (C : Cal) (i2x0 : Int) (i2x1 : Int) (i2x2 : Int) (i2x3 : Int) (i2x4 : Int) (i3x0 : Int) (i3x1 : Int) (i3x2 : Int) (i3x3 : Int) (i3x4 : Int) (i6 : Int) (h : Heap) : Q23x15 M C (.exit 0) (S23xe0 i2x0 i2x1 i2x2 i2x3 i2x4 i3x0 i3x1 i3x2 i3x3 i3x4 i6 h) = (
  (C 35 [(.agg [(.int .i64 i2x0), (.int .i64 i2x1), (.int .i64 i2x2), (.int .i64 i2x3), (.int .i64 i2x4)])] h).bind fun r42 =>
  gL (some r42.1) true fun s42 n42 =>
  L23x30 M C i2x0 i2x1 i2x2 i2x3 i2x4 i3x0 i3x1 i3x2 i3x3 i3x4 i6 s42 n42 ((n42 : Nat) : Int) 0 r42.2 (Q23x30 M C)
  ) := by kernel_rfl
theorem L23x30xaux (i2x0 : Int) (i2x1 : Int) (i2x2 : Int) (i2x3 : Int) (i2x4 : Int) (i3x0 : Int) (i3x1 : Int) (i3x2 : Int) (i3x3 : Int) (i3x4 : Int) (i6 : Int) (s42 : SA) (n42 : Nat) (i43 : Int) (i44 : Int) (h : Heap) (Q : Kont R) : (restrF 30786325577804 ⟨(.any :: .any :: (.box [(.int .i64 i2x0), (.int .i64 i2x1), (.int .i64 i2x2), (.int .i64 i2x3), (.int .i64 i2x4)] :: (.box [(.int .i64 i3x0), (.int .i64 i3x1), (.int .i64 i3x2), (.int .i64 i3x3), (.int .i64 i3x4)] :: (.any :: .any :: (.g [] true (.int .i64 i6) :: (rep 35 (.g [] true (.sl s42 n42) :: (.g [] true (.int .i64 i43) :: (.g [] true (.int .i64 i44) :: (rep 15 [])))))))))), h⟩ fun σ => evalE M C k23x30 σ (roundQ M C k23x30 30786325577804 12 Q)) = (
  letK ((decide ((i44 : Int) < i43)) : Bool) fun b45 =>
  if b45 = true then
    (
    chk (true = true → (0 : Int) ≤ i44 ∧ (i44 : Int) < ((n42 : Nat) : Int)) <|
    atP (adP s42) true fun a46 =>
    gI .i64 (ld1 h (Ad.add a46 (Int.toNat i44 * 1))) true fun i47 =>
    letK ((decide ((i47 : Int) = i6)) : Bool) fun b50 =>
    if b50 = true then
      (
      Q .ret (S23xr true h)
      )
    else
      (
      letK ((IntKind.wrap .i64 (i44 + 1)) : Int) fun i51 =>
      L23x30 M C i2x0 i2x1 i2x2 i2x3 i2x4 i3x0 i3x1 i3x2 i3x3 i3x4 i6 s42 n42 i43 i51 h Q
      )
    )
  else
    (
    Q (.exit 2) (S23xe2 i2x0 i2x1 i2x2 i2x3 i2x4 i3x0 i3x1 i3x2 i3x3 i3x4 h)
    )
  ) := by kernel_rfl
theorem L23x30xeq (i2x0 : Int) (i2x1 : Int) (i2x2 : Int) (i2x3 : Int) (i2x4 : Int) (i3x0 : Int) (i3x1 : Int) (i3x2 : Int) (i3x3 : Int) (i3x4 : Int) (i6 : Int) (s42 : SA) (n42 : Nat) (i43 : Int) (i44 : Int) (h : Heap) (Q : Kont R) : L23x30 mk0 C i2x0 i2x1 i2x2 i2x3 i2x4 i3x0 i3x1 i3x2 i3x3 i3x4 i6 s42 n42 i43 i44 h Q = (
  letK ((decide ((i44 : Int) < i43)) : Bool) fun b45 =>
  if b45 = true then
    (
    chk (true = true → (0 : Int) ≤ i44 ∧ (i44 : Int) < ((n42 : Nat) : Int)) <|
    atP (adP s42) true fun a46 =>
    gI .i64 (ld1 h (Ad.add a46 (Int.toNat i44 * 1))) true fun i47 =>
    letK ((decide ((i47 : Int) = i6)) : Bool) fun b50 =>
    if b50 = true then
      (
      Q .ret (S23xr true h)
      )
    else
      (
      letK ((IntKind.wrap .i64 (i44 + 1)) : Int) fun i51 =>
      L23x30 mk0 C i2x0 i2x1 i2x2 i2x3 i2x4 i3x0 i3x1 i3x2 i3x3 i3x4 i6 s42 n42 i43 i51 h Q
      )
    )
  else
    (
    Q (.exit 2) (S23xe2 i2x0 i2x1 i2x2 i2x3 i2x4 i3x0 i3x1 i3x2 i3x3 i3x4 h)
    )
  ) := loop_eqn C k23x30 30786325577804 12 (.any :: .any :: (.box [(.int .i64 i2x0), (.int .i64 i2x1), (.int .i64 i2x2), (.int .i64 i2x3), (.int .i64 i2x4)] :: (.box [(.int .i64 i3x0), (.int .i64 i3x1), (.int .i64 i3x2), (.int .i64 i3x3), (.int .i64 i3x4)] :: (.any :: .any :: (.g [] true (.int .i64 i6) :: (rep 35 (.g [] true (.sl s42 n42) :: (.g [] true (.int .i64 i43) :: (.g [] true (.int .i64 i44) :: (rep 15 [])))))))))) h Q (by kernel_rfl) (L23x30xaux mk0 C i2x0 i2x1 i2x2 i2x3 i2x4 i3x0 i3x1 i3x2 i3x3 i3x4 i6 s42 n42 i43 i44 h Q)
theorem X23x30xr (M : Mk) (C : Cal) (b4 : Bool) (h : Heap) : Q23x30 M C .ret (S23xr b4 h) = (
  some ((.bool b4), h)
  ) := by kernel_rfl
theorem X23x30xe2 (M : Mk) (C : Cal) (i2x0 : Int) (i2x1 : Int) (i2x2 : Int) (i2x3 : Int) (i2x4 : Int) (i3x0 : Int) (i3x1 : Int) (i3x2 : Int) (i3x3 : Int) (i3x4 : Int) (h : Heap) : Q23x30 M C (.exit 2) (S23xe2 i2x0 i2x1 i2x2 i2x3 i2x4 i3x0 i3x1 i3x2 i3x3 i3x4 h) = (
  (C 36 [(.int .i64 i2x0)] h).bind fun r54 =>
  gB (some r54.1) true fun b54 =>
  gI .i64 (some (.int .i64 i3x0)) b54 fun i57 =>
  (callO b54 (C 36 [(.int .i64 i57)] r54.2) (.bool false) r54.2).bind fun r58 =>
  gB (some r58.1) b54 fun b58 =>
  letK ((if b54 = true then b58 else false) : Bool) fun b59 =>
  some ((.bool b59), r58.2)
  ) := by kernel_rfl
def k49x9 : AC := .exit 0
def k49x8 : AC := .mask 29
def k49x7 : AC := .seq (.cond (.tmp 20)
   (.skip)
   (.seq (.mask 12) k49x9)) k49x8
def k49x19 : AC := .exit 2
def k49x18 : AC := .mask 61
def k49x17 : AC := .seq (.cond (.tmp 38)
   (.skip)
   (.seq (.mask 29) k49x19)) k49x18
def k49x25 : AC := .ops false [
    ⟨(some 69), .fieldAddr 2 (.tmp 3), none, []⟩,
    ⟨(some 70), .load (.cell .sl) (.tmp 69), none, []⟩,
    ⟨(some 71), .move (.tmp 4), none, []⟩,
    ⟨(some 72), .fieldAddr 2 (.tmp 3), none, []⟩,
    ⟨(some 73), .load (.cell .sl) (.tmp 72), none, []⟩,
    ⟨(some 74), .move (.tmp 4), none, []⟩,
    ⟨(some 75), .indexAddr 1 (.tmp 73) (.tmp 74), none, []⟩,
    ⟨(some 76), .load (.cell (.int .i64)) (.tmp 75), none, []⟩,
    ⟨(some 77), .move (.tmp 0), none, []⟩,
    ⟨(some 78), .move (.tmp 4), none, []⟩,
    ⟨(some 79), .indexAddr 5 (.tmp 77) (.tmp 78), none, []⟩,
    ⟨(some 80), .fieldAddr 0 (.tmp 79), none, []⟩,
    ⟨(some 81), .load (.cell (.int .i64)) (.tmp 80), none, []⟩,
    ⟨(some 83), .fieldAddr 2 (.tmp 3), none, []⟩,
    ⟨(some 84), .load (.cell .sl) (.tmp 83), none, []⟩,
    ⟨(some 85), .move (.tmp 5), none, []⟩,
    ⟨(some 86), .indexAddr 1 (.tmp 84) (.tmp 85), none, []⟩,
    ⟨(some 87), .load (.cell (.int .i64)) (.tmp 86), none, []⟩,
    ⟨(some 82), .call 44 [(.tmp 81)] [(.cell (.int .i64))] (.int .i64 0), none, [.load 1 69 none, .load 1 72 none, .load 1 75 none, .load 1 83 none, .load 1 86 none]⟩,
    ⟨(some 88), .bin .other .add (.tmp 82) (.tmp 87), none, []⟩,
    ⟨(some 89), .mm true [(.tmp 76), (.tmp 88)], none, []⟩,
    ⟨(some 90), .indexAddr 1 (.tmp 70) (.tmp 71), none, []⟩,
    ⟨none, .store 1 (.tmp 90) (.tmp 89), none, []⟩]
def k49x24 : AC := .seq (.ops false [
    ⟨(some 62), .fieldAddr 0 (.tmp 3), none, []⟩,
    ⟨(some 63), .load (.cell .sl) (.tmp 62), none, []⟩,
    ⟨(some 64), .move (.tmp 5), none, []⟩,
    ⟨(some 65), .indexAddr 1 (.tmp 63) (.tmp 64), none, []⟩,
    ⟨(some 66), .load (.cell (.int .i64)) (.tmp 65), none, []⟩,
    ⟨(some 67), .bin .other .add (.tmp 66) (.c (.int .i64 1)), none, []⟩,
    ⟨(some 68), .indexAddr 1 (.tmp 63) (.tmp 64), none, []⟩,
    ⟨none, .store 1 (.tmp 68) (.tmp 67), none, []⟩]) k49x25
def k49x23 : AC := .join 61
def k49x22 : AC := .seq (.cond (.tmp 49)
   (.seq (.ops false [
      ⟨(some 50), .fieldAddr 1 (.tmp 3), none, []⟩,
      ⟨(some 51), .load (.cell .sl) (.tmp 50), none, []⟩,
      ⟨(some 52), .move (.tmp 4), none, []⟩,
      ⟨(some 53), .fieldAddr 1 (.tmp 3), none, []⟩,
      ⟨(some 54), .load (.cell .sl) (.tmp 53), none, []⟩,
      ⟨(some 55), .move (.tmp 4), none, []⟩,
      ⟨(some 56), .indexAddr 1 (.tmp 54) (.tmp 55), none, []⟩,
      ⟨(some 57), .load (.cell .sl) (.tmp 56), none, []⟩,
      ⟨(some 58), .move (.tmp 5), none, []⟩,
      ⟨(some 59), .buildSl [(.int .i64 0)] 1 [(0, (.tmp 58))], none, []⟩,
      ⟨(some 60), .append [(.int .i64 0)] 1 8 (.tmp 57) (.tmp 59), none, [.load 1 50 none]⟩,
      ⟨(some 61), .indexAddr 1 (.tmp 51) (.tmp 52), none, []⟩,
      ⟨none, .store 1 (.tmp 61) (.tmp 60), none, []⟩]) k49x24)
   (.skip)) k49x23
def k49x21 : AC := .mask 61
def k49x20 : AC := .ops false [
    ⟨(some 39), .move (.tmp 5), none, []⟩,
    ⟨(some 40), .bin .other .add (.tmp 39) (.c (.int .i64 1)), none, []⟩,
    ⟨(some 5), .move (.tmp 40), none, []⟩]
def k49x16 : AC := .seq (.seq (.block 3 (.seq (.ops false [
     ⟨(some 41), .move (.tmp 0), none, []⟩,
     ⟨(some 42), .move (.tmp 4), none, []⟩,
     ⟨(some 43), .indexAddr 5 (.tmp 41) (.tmp 42), none, []⟩,
     ⟨(some 44), .load (.agg [(.int .i64), (.int .i64), (.int .i64), (.int .i64), (.int .i64)]) (.tmp 43), none, []⟩,
     ⟨(some 45), .move (.tmp 0), none, []⟩,
     ⟨(some 46), .move (.tmp 5), none, []⟩,
     ⟨(some 47), .indexAddr 5 (.tmp 45) (.tmp 46), none, []⟩,
     ⟨(some 48), .load (.agg [(.int .i64), (.int .i64), (.int .i64), (.int .i64), (.int .i64)]) (.tmp 47), none, []⟩,
     ⟨(some 49), .call 23 [(.tmp 44), (.tmp 48)] [(.cell .bool)] (.bool false), none, []⟩]) k49x22)) k49x21) k49x20
def k49x15 : AC := .seq (.seq (.ops false [
    ⟨(some 35), .move (.tmp 5), none, []⟩,
    ⟨(some 36), .move (.tmp 0), none, []⟩,
    ⟨(some 37), .lenSl (.tmp 36), none, []⟩,
    ⟨(some 38), .bin .other .lss (.tmp 35) (.tmp 37), none, []⟩]) k49x17) k49x16
def k49x14 : AC := .mask 29
def k49x13 : AC := .seq (.block 2 (.loop 61 29 k49x15)) k49x14
def k49x12 : AC := .seq (.ops false [
    ⟨(some 33), .move (.tmp 4), none, []⟩,
    ⟨(some 34), .bin .other .add (.tmp 33) (.c (.int .i64 1)), none, []⟩,
    ⟨(some 5), .move (.tmp 34), none, []⟩]) k49x13
def k49x11 : AC := .mask 29
def k49x10 : AC := .ops false [
    ⟨(some 21), .move (.tmp 4), none, []⟩,
    ⟨(some 22), .bin .other .sub (.tmp 21) (.c (.int .i64 1)), none, []⟩,
    ⟨(some 4), .move (.tmp 22), none, []⟩]
def k49x6 : AC := .seq (.seq (.block 1 (.seq (.ops false [
     ⟨(some 23), .fieldAddr 2 (.tmp 3), none, []⟩,
     ⟨(some 24), .load (.cell .sl) (.tmp 23), none, []⟩,
     ⟨(some 25), .move (.tmp 4), none, []⟩,
     ⟨(some 26), .move (.tmp 0), none, []⟩,
     ⟨(some 27), .move (.tmp 4), none, []⟩,
     ⟨(some 28), .indexAddr 5 (.tmp 26) (.tmp 27), none, []⟩,
     ⟨(some 29), .fieldAddr 0 (.tmp 28), none, []⟩,
     ⟨(some 30), .load (.cell (.int .i64)) (.tmp 29), none, []⟩,
     ⟨(some 31), .call 44 [(.tmp 30)] [(.cell (.int .i64))] (.int .i64 0), none, [.load 1 23 none]⟩,
     ⟨(some 32), .indexAddr 1 (.tmp 24) (.tmp 25), none, []⟩,
     ⟨none, .store 1 (.tmp 32) (.tmp 31), none, []⟩]) k49x12)) k49x11) k49x10
def k49x5 : AC := .seq (.seq (.ops false [
    ⟨(some 19), .move (.tmp 4), none, []⟩,
    ⟨(some 20), .bin .other .geq (.tmp 19) (.c (.int .i64 0)), none, []⟩]) k49x7) k49x6
def k49x4 : AC := .mask 12
def k49x3 : AC := .seq (.block 0 (.loop 29 12 k49x5)) k49x4
def k49x28 : AC := .ret
def k49x27 : AC := .seq (.mask 4) k49x28
def k49x2 : AC := .seq (.ops false [
    ⟨(some 91), .load (.agg [.sl, .sl, .sl]) (.tmp 3), none, []⟩,
    ⟨none, .store 3 (.tmp 2) (.tmp 91), none, []⟩]) k49x27
def k49x1 : AC := .seq (.seq (.ops false [
    ⟨(some 16), .move (.tmp 0), none, []⟩,
    ⟨(some 17), .lenSl (.tmp 16), none, []⟩,
    ⟨(some 18), .bin .other .sub (.tmp 17) (.c (.int .i64 1)), none, []⟩,
    ⟨(some 4), .move (.tmp 18), none, []⟩]) k49x3) k49x2
def k49x0 : AC := .seq (.ops false [
    ⟨(some 6), .move (.tmp 0), none, []⟩,
    ⟨(some 7), .lenSl (.tmp 6), none, []⟩,
    ⟨(some 8), .makeSl [(.int .i64 0)] 8 (.tmp 7) (.tmp 7), none, []⟩,
    ⟨(some 9), .move (.tmp 0), none, []⟩,
    ⟨(some 10), .lenSl (.tmp 9), none, []⟩,
    ⟨(some 11), .makeSl [(.sl .nil 0)] 24 (.tmp 10) (.tmp 10), none, []⟩,
    ⟨(some 12), .move (.tmp 0), none, []⟩,
    ⟨(some 13), .lenSl (.tmp 12), none, []⟩,
    ⟨(some 14), .makeSl [(.int .i64 0)] 8 (.tmp 13) (.tmp 13), none, []⟩,
    ⟨(some 15), .build [(.sl .nil 0), (.sl .nil 0), (.sl .nil 0)] [(0, 1, (.tmp 8)), (1, 1, (.tmp 11)), (2, 1, (.tmp 14))], none, []⟩,
    ⟨(some 3), .allocL [(.sl .nil 0), (.sl .nil 0), (.sl .nil 0)], none, []⟩,
    ⟨none, .store 3 (.tmp 3) (.tmp 15), none, []⟩]) k49x1
/-- provenance/sched.build -/
def c49 : AFn := ⟨92, [.cell 2 (.agg [.sl, .sl, .sl])],
  .seq (.ops false [
    ⟨(some 2), .allocL [(.sl .nil 0), (.sl .nil 0), (.sl .nil 0)], none, []⟩]) k49x0⟩
def S49xe0 (s2x0 : SA) (n2x0 : Nat) (s2x1 : SA) (n2x1 : Nat) (s2x2 : SA) (n2x2 : Nat) (s3x0 : SA) (n3x0 : Nat) (s3x1 : SA) (n3x1 : Nat) (s3x2 : SA) (n3x2 : Nat) (h : Heap) : St := ⟨(.any :: .any :: (.box [(.sl s2x0 n2x0), (.sl s2x1 n2x1), (.sl s2x2 n2x2)] :: (.box [(.sl s3x0 n3x0), (.sl s3x1 n3x1), (.sl s3x2 n3x2)] :: (rep 88 [])))), h⟩
def S49xe2 (s0 : SA) (n0 : Nat) (s2x0 : SA) (n2x0 : Nat) (s2x1 : SA) (n2x1 : Nat) (s2x2 : SA) (n2x2 : Nat) (s3x0 : SA) (n3x0 : Nat) (s3x1 : SA) (n3x1 : Nat) (s3x2 : SA) (n3x2 : Nat) (i4 : Int) (h : Heap) : St := ⟨(.g [] true (.sl s0 n0) :: (.any :: (.box [(.sl s2x0 n2x0), (.sl s2x1 n2x1), (.sl s2x2 n2x2)] :: (.box [(.sl s3x0 n3x0), (.sl s3x1 n3x1), (.sl s3x2 n3x2)] :: (.g [] true (.int .i64 i4) :: (rep 87 [])))))), h⟩
noncomputable def Q49x5 (M : Mk) (C : Cal) : Kont (AV × Heap) := (blockQ 0 (seqQ (evalE M C k49x4) (seqQ (evalE M C k49x2) (endQ [.cell 2 (.agg [.sl, .sl, .sl])]))))
noncomputable def L49x5 (s0 : SA) (n0 : Nat) (s2x0 : SA) (n2x0 : Nat) (s2x1 : SA) (n2x1 : Nat) (s2x2 : SA) (n2x2 : Nat) (s3x0 : SA) (n3x0 : Nat) (s3x1 : SA) (n3x1 : Nat) (s3x2 : SA) (n3x2 : Nat) (i4 : Int) (h : Heap) (Q : Kont R) : Option R := loopE (evalE M C k49x5) 29 12 ⟨(.g [] true (.sl s0 n0) :: (.any :: (.box [(.sl s2x0 n2x0), (.sl s2x1 n2x1), (.sl s2x2 n2x2)] :: (.box [(.sl s3x0 n3x0), (.sl s3x1 n3x1), (.sl s3x2 n3x2)] :: (.g [] true (.int .i64 i4) :: (rep 87 [])))))), h⟩ Q
noncomputable def Q49x15 (M : Mk) (C : Cal) (Q : Kont R) : Kont R := (blockQ 2 (seqQ (evalE M C k49x14) (blockQ 1 (seqQ (evalE M C k49x11) (seqQ (evalE M C k49x10) (roundQ M C k49x5 29 12 Q))))))
noncomputable def L49x15 (s0 : SA) (n0 : Nat) (s2x0 : SA) (n2x0 : Nat) (s2x1 : SA) (n2x1 : Nat) (s2x2 : SA) (n2x2 : Nat) (s3x0 : SA) (n3x0 : Nat) (s3x1 : SA) (n3x1 : Nat) (s3x2 : SA) (n3x2 : Nat) (i4 : Int) (i5 : Int) (h : Heap) (Q : Kont R) : Option R := loopE (evalE M C k49x15) 61 29 ⟨(.g [] true (.sl s0 n0) :: (.any :: (.box [(.sl s2x0 n2x0), (.sl s2x1 n2x1), (.sl s2x2 n2x2)] :: (.box [(.sl s3x0 n3x0), (.sl s3x1 n3x1), (.sl s3x2 n3x2)] :: (.g [] true (.int .i64 i4) :: (.g [] true (.int .i64 i5) :: (rep 86 []))))))), h⟩ Q
noncomputable def J49x26 (M : Mk) (C : Cal) (s0 : SA) (n0 : Nat) (s2x0 : SA) (n2x0 : Nat) (s2x1 : SA) (n2x1 : Nat) (s2x2 : SA) (n2x2 : Nat) (s3x0 : SA) (n3x0 : Nat) (s3x1 : SA) (n3x1 : Nat) (s3x2 : SA) (n3x2 : Nat) (i4 : Int) (i5 : Int) (h : Heap) (Q : Kont R) : Option R := M R (blockQ 3 (seqQ (evalE M C k49x21) (seqQ (evalE M C k49x20) (roundQ M C k49x15 61 29 Q)))) (.g [] true (.sl s0 n0) :: (.any :: (.box [(.sl s2x0 n2x0), (.sl s2x1 n2x1), (.sl s2x2 n2x2)] :: (.box [(.sl s3x0 n3x0), (.sl s3x1 n3x1), (.sl s3x2 n3x2)] :: (.g [] true (.int .i64 i4) :: (.g [] true (.int .i64 i5) :: (rep 86 []))))))) h
theorem r49 (s0 : SA) (n0 : Nat) (h : Heap) : runE M C c49 [(.sl s0 n0)] h = (
  chk ((0 : Int) ≤ ((n0 : Nat) : Int) ∧ (((n0 : Nat) : Int) : Int) ≤ ((n0 : Nat) : Int) ∧ ((n0 : Nat) : Int) * ((8 : Nat) : Int) ≤ 70368744177664) <|
  newK h (.cells (repl (Int.toNat ((n0 : Nat) : Int)) [(.int .i64 0)]) (.grow 1) 0) fun h_2 =>
  letK ((Int.toNat ((n0 : Nat) : Int)) : Nat) fun n8 =>
  chk ((0 : Int) ≤ ((n0 : Nat) : Int) ∧ (((n0 : Nat) : Int) : Int) ≤ ((n0 : Nat) : Int) ∧ ((n0 : Nat) : Int) * ((24 : Nat) : Int) ≤ 70368744177664) <|
  newK h_2 (.cells (repl (Int.toNat ((n0 : Nat) : Int)) [(.sl .nil 0)]) (.grow 1) 0) fun h_3 =>
  letK ((Int.toNat ((n0 : Nat) : Int)) : Nat) fun n11 =>
  chk ((0 : Int) ≤ ((n0 : Nat) : Int) ∧ (((n0 : Nat) : Int) : Int) ≤ ((n0 : Nat) : Int) ∧ ((n0 : Nat) : Int) * ((8 : Nat) : Int) ≤ 70368744177664) <|
  newK h_3 (.cells (repl (Int.toNat ((n0 : Nat) : Int)) [(.int .i64 0)]) (.grow 1) 0) fun h_4 =>
  letK ((Int.toNat ((n0 : Nat) : Int)) : Nat) fun n14 =>
  letK ((IntKind.wrap .i64 (((n0 : Nat) : Int) - 1)) : Int) fun i18 =>
  L49x5 M C s0 n0 .nil 0 .nil 0 .nil 0 (.pos ⟨List.length h, 0, 0⟩) n8 (.pos ⟨List.length h_2, 0, 0⟩) n11 (.pos ⟨List.length h_3, 0, 0⟩) n14 i18 h_4 (Q49x5 M C)
  ) := by kernel_rfl
theorem cf49 : cFn Try.prog 49 = some c49 := by kernel_rfl
theorem e49 (s0 : SA) (n0 : Nat) (h : Heap) : E 49 [(.sl s0 n0)] h = (
  chk ((0 : Int) ≤ ((n0 : Nat) : Int) ∧ (((n0 : Nat) : Int) : Int) ≤ ((n0 : Nat) : Int) ∧ ((n0 : Nat) : Int) * ((8 : Nat) : Int) ≤ 70368744177664) <|
  newK h (.cells (repl (Int.toNat ((n0 : Nat) : Int)) [(.int .i64 0)]) (.grow 1) 0) fun h_2 =>
  letK ((Int.toNat ((n0 : Nat) : Int)) : Nat) fun n8 =>
  chk ((0 : Int) ≤ ((n0 : Nat) : Int) ∧ (((n0 : Nat) : Int) : Int) ≤ ((n0 : Nat) : Int) ∧ ((n0 : Nat) : Int) * ((24 : Nat) : Int) ≤ 70368744177664) <|
  newK h_2 (.cells (repl (Int.toNat ((n0 : Nat) : Int)) [(.sl .nil 0)]) (.grow 1) 0) fun h_3 =>
  letK ((Int.toNat ((n0 : Nat) : Int)) : Nat) fun n11 =>
  chk ((0 : Int) ≤ ((n0 : Nat) : Int) ∧ (((n0 : Nat) : Int) : Int) ≤ ((n0 : Nat) : Int) ∧ ((n0 : Nat) : Int) * ((8 : Nat) : Int) ≤ 70368744177664) <|
  newK h_3 (.cells (repl (Int.toNat ((n0 : Nat) : Int)) [(.int .i64 0)]) (.grow 1) 0) fun h_4 =>
  letK ((Int.toNat ((n0 : Nat) : Int)) : Nat) fun n14 =>
  letK ((IntKind.wrap .i64 (((n0 : Nat) : Int) - 1)) : Int) fun i18 =>
  L49x5 mk0 E s0 n0 .nil 0 .nil 0 .nil 0 (.pos ⟨List.length h, 0, 0⟩) n8 (.pos ⟨List.length h_2, 0, 0⟩) n11 (.pos ⟨List.length h_3, 0, 0⟩) n14 i18 h_4 (Q49x5 mk0 E)
  ) := (EV_eq (P := Try.prog) (T := T0) rfl cf49 [(.sl s0 n0)] h).trans (r49 mk0 E s0 n0 h)
theorem L49x5xaux (s0 : SA) (n0 : Nat) (s2x0 : SA) (n2x0 : Nat) (s2x1 : SA) (n2x1 : Nat) (s2x2 : SA) (n2x2 : Nat) (s3x0 : SA) (n3x0 : Nat) (s3x1 : SA) (n3x1 : Nat) (s3x2 : SA) (n3x2 : Nat) (i4 : Int) (h : Heap) (Q : Kont R) : (restrF 29 ⟨(.g [] true (.sl s0 n0) :: (.any :: (.box [(.sl s2x0 n2x0), (.sl s2x1 n2x1), (.sl s2x2 n2x2)] :: (.box [(.sl s3x0 n3x0), (.sl s3x1 n3x1), (.sl s3x2 n3x2)] :: (.g [] true (.int .i64 i4) :: (rep 87 [])))))), h⟩ fun σ => evalE M C k49x5 σ (roundQ M C k49x5 29 12 Q)) = (
  letK ((decide ((0 : Int) ≤ i4)) : Bool) fun b20 =>
  if b20 = true then
    (
    chk (true = true → (0 : Int) ≤ i4 ∧ (i4 : Int) < ((n0 : Nat) : Int)) <|
    atP (adP s0) true fun a28 =>
    gI .i64 (ld1 h (Ad.add (Ad.add a28 (Int.toNat i4 * 5)) 0)) true fun i30 =>
    (C 44 [(.int .i64 i30)] h).bind fun r31 =>
    gI .i64 (some r31.1) true fun i31 =>
    chk (true = true → (0 : Int) ≤ i4 ∧ (i4 : Int) < ((n3x2 : Nat) : Int)) <|
    atP (adP s3x2) true fun a32 =>
    (st1 r31.2 (Ad.add a32 (Int.toNat i4 * 1)) (.int .i64 i31)).bind fun h_2 =>
    letK ((IntKind.wrap .i64 (i4 + 1)) : Int) fun i34 =>
    L49x15 M C s0 n0 s2x0 n2x0 s2x1 n2x1 s2x2 n2x2 s3x0 n3x0 s3x1 n3x1 s3x2 n3x2 i4 i34 h_2 (Q49x15 M C Q)
    )
  else
    (
    Q (.exit 0) (S49xe0 s2x0 n2x0 s2x1 n2x1 s2x2 n2x2 s3x0 n3x0 s3x1 n3x1 s3x2 n3x2 h)
    )
  ) := by kernel_rfl
theorem L49x5xeq (s0 : SA) (n0 : Nat) (s2x0 : SA) (n2x0 : Nat) (s2x1 : SA) (n2x1 : Nat) (s2x2 : SA) (n2x2 : Nat) (s3x0 : SA) (n3x0 : Nat) (s3x1 : SA) (n3x1 : Nat) (s3x2 : SA) (n3x2 : Nat) (i4 : Int) (h : Heap) (Q : Kont R) : L49x5 mk0 C s0 n0 s2x0 n2x0 s2x1 n2x1 s2x2 n2x2 s3x0 n3x0 s3x1 n3x1 s3x2 n3x2 i4 h Q = (
  letK ((decide ((0 : Int) ≤ i4)) : Bool) fun b20 =>
  if b20 = true then
    (
    chk (true = true → (0 : Int) ≤ i4 ∧ (i4 : Int) < ((n0 : Nat) : Int)) <|
    atP (adP s0) true fun a28 =>
    gI .i64 (ld1 h (Ad.add (Ad.add a28 (Int.toNat i4 * 5)) 0)) true fun i30 =>
    (C 44 [(.int .i64 i30)] h).bind fun r31 =>
    gI .i64 (some r31.1) true fun i31 =>
    chk (true = true → (0 : Int) ≤ i4 ∧ (i4 : Int) < ((n3x2 : Nat) : Int)) <|
    atP (adP s3x2) true fun a32 =>
    (st1 r31.2 (Ad.add a32 (Int.toNat i4 * 1)) (.int .i64 i31)).bind fun h_2 =>
    letK ((IntKind.wrap .i64 (i4 + 1)) : Int) fun i34 =>
    L49x15 mk0 C s0 n0 s2x0 n2x0 s2x1 n2x1 s2x2 n2x2 s3x0 n3x0 s3x1 n3x1 s3x2 n3x2 i4 i34 h_2 (Q49x15 mk0 C Q)
    )
  else
    (
    Q (.exit 0) (S49xe0 s2x0 n2x0 s2x1 n2x1 s2x2 n2x2 s3x0 n3x0 s3x1 n3x1 s3x2 n3x2 h)
    )
  ) := loop_eqn C k49x5 29 12 (.g [] true (.sl s0 n0) :: (.any :: (.box [(.sl s2x0 n2x0), (.sl s2x1 n2x1), (.sl s2x2 n2x2)] :: (.box [(.sl s3x0 n3x0), (.sl s3x1 n3x1), (.sl s3x2 n3x2)] :: (.g [] true (.int .i64 i4) :: (rep 87 [])))))) h Q (by kernel_rfl) (L49x5xaux mk0 C s0 n0 s2x0 n2x0 s2x1 n2x1 s2x2 n2x2 s3x0 n3x0 s3x1 n3x1 s3x2 n3x2 i4 h Q)
theorem L49x15xaux (s0 : SA) (n0 : Nat) (s2x0 : SA) (n2x0 : Nat) (s2x1 : SA) (n2x1 : Nat) (s2x2 : SA) (n2x2 : Nat) (s3x0 : SA) (n3x0 : Nat) (s3x1 : SA) (n3x1 : Nat) (s3x2 : SA) (n3x2 : Nat) (i4 : Int) (i5 : Int) (h : Heap) (Q : Kont R) : (restrF 61 ⟨(.g [] true (.sl s0 n0) :: (.any :: (.box [(.sl s2x0 n2x0), (.sl s2x1 n2x1), (.sl s2x2 n2x2)] :: (.box [(.sl s3x0 n3x0), (.sl s3x1 n3x1), (.sl s3x2 n3x2)] :: (.g [] true (.int .i64 i4) :: (.g [] true (.int .i64 i5) :: (rep 86 []))))))), h⟩ fun σ => evalE M C k49x15 σ (roundQ M C k49x15 61 29 Q)) = (
  letK ((decide ((i5 : Int) < ((n0 : Nat) : Int))) : Bool) fun b38 =>
  if b38 = true then
    (
    chk (true = true → (0 : Int) ≤ i4 ∧ (i4 : Int) < ((n0 : Nat) : Int)) <|
    atP (adP s0) true fun a43 =>
    gCells (ldN h (Ad.add a43 (Int.toNat i4 * 5)) 5) true fun l44 =>
    gI .i64 (l44[0]?) true fun i44x0 =>
    gI .i64 (l44[1]?) true fun i44x1 =>
    gI .i64 (l44[2]?) true fun i44x2 =>
    gI .i64 (l44[3]?) true fun i44x3 =>
    gI .i64 (l44[4]?) true fun i44x4 =>
    chk (true = true → (0 : Int) ≤ i5 ∧ (i5 : Int) < ((n0 : Nat) : Int)) <|
    atP (adP s0) true fun a47 =>
    gCells (ldN h (Ad.add a47 (Int.toNat i5 * 5)) 5) true fun l48 =>
    gI .i64 (l48[0]?) true fun i48x0 =>
    gI .i64 (l48[1]?) true fun i48x1 =>
    gI .i64 (l48[2]?) true fun i48x2 =>
    gI .i64 (l48[3]?) true fun i48x3 =>
    gI .i64 (l48[4]?) true fun i48x4 =>
    (C 23 [(.agg [(.int .i64 i44x0), (.int .i64 i44x1), (.int .i64 i44x2), (.int .i64 i44x3), (.int .i64 i44x4)]), (.agg [(.int .i64 i48x0), (.int .i64 i48x1), (.int .i64 i48x2), (.int .i64 i48x3), (.int .i64 i48x4)])] h).bind fun r49 =>
    gB (some r49.1) true fun b49 =>
    if b49 = true then
      (
      chk (true = true → (0 : Int) ≤ i4 ∧ (i4 : Int) < ((n3x1 : Nat) : Int)) <|
      atP (adP s3x1) true fun a56 =>
      gL (ld1 r49.2 (Ad.add a56 (Int.toNat i4 * 1))) true fun s57 n57 =>
      newK r49.2 (.cells [(.int .i64 i5)] (.grow 1) 0) fun h_2 =>
      (ldSl h_2 (.pos ⟨List.length r49.2, 0, 0⟩) (1 * 1)).bind fun y60 =>
      (apnd h_2 (.sl s57 n57) 1 8 y60 1).bind fun r60 =>
      gL (some r60.1) true fun s60 n60 =>
      chk (true = true → (0 : Int) ≤ i4 ∧ (i4 : Int) < ((n3x1 : Nat) : Int)) <|
      atP (adP s3x1) true fun a61 =>
      (st1 r60.2 (Ad.add a61 (Int.toNat i4 * 1)) (.sl s60 n60)).bind fun h_3 =>
      chk (true = true → (0 : Int) ≤ i5 ∧ (i5 : Int) < ((n3x0 : Nat) : Int)) <|
      atP (adP s3x0) true fun a65 =>
      gI .i64 (ld1 h_3 (Ad.add a65 (Int.toNat i5 * 1))) true fun i66 =>
      letK ((IntKind.wrap .i64 (i66 + 1)) : Int) fun i67 =>
      chk (true = true → (0 : Int) ≤ i5 ∧ (i5 : Int) < ((n3x0 : Nat) : Int)) <|
      atP (adP s3x0) true fun a68 =>
      (st1 h_3 (Ad.add a68 (Int.toNat i5 * 1)) (.int .i64 i67)).bind fun h_4 =>
      chk (true = true → (0 : Int) ≤ i4 ∧ (i4 : Int) < ((n3x2 : Nat) : Int)) <|
      atP (adP s3x2) true fun a75 =>
      gI .i64 (ld1 h_4 (Ad.add a75 (Int.toNat i4 * 1))) true fun i76 =>
      chk (true = true → (0 : Int) ≤ i4 ∧ (i4 : Int) < ((n0 : Nat) : Int)) <|
      atP (adP s0) true fun a79 =>
      gI .i64 (ld1 h_4 (Ad.add (Ad.add a79 (Int.toNat i4 * 5)) 0)) true fun i81 =>
      chk (true = true → (0 : Int) ≤ i5 ∧ (i5 : Int) < ((n3x2 : Nat) : Int)) <|
      atP (adP s3x2) true fun a86 =>
      gI .i64 (ld1 h_4 (Ad.add a86 (Int.toNat i5 * 1))) true fun i87 =>
      (C 44 [(.int .i64 i81)] h_4).bind fun r82 =>
      gI .i64 (some r82.1) true fun i82 =>
      chkC (true = true → ldN r82.2 (Ad.add a75 (Int.toNat i4 * 1)) 1 = ldN h_4 (Ad.add a75 (Int.toNat i4 * 1)) 1) <|
      chkC (true = true → ldN r82.2 (Ad.add a86 (Int.toNat i5 * 1)) 1 = ldN h_4 (Ad.add a86 (Int.toNat i5 * 1)) 1) <|
      letK ((IntKind.wrap .i64 (i82 + i87)) : Int) fun i88 =>
      letK ((foldMM true i76 [i88]) : Int) fun i89 =>
      chk (true = true → (0 : Int) ≤ i4 ∧ (i4 : Int) < ((n3x2 : Nat) : Int)) <|
      atP (adP s3x2) true fun a90 =>
      (st1 r82.2 (Ad.add a90 (Int.toNat i4 * 1)) (.int .i64 i89)).bind fun h_5 =>
      J49x26 M C s0 n0 s2x0 n2x0 s2x1 n2x1 s2x2 n2x2 s3x0 n3x0 s3x1 n3x1 s3x2 n3x2 i4 i5 h_5 Q
      )
    else
      (
      J49x26 M C s0 n0 s2x0 n2x0 s2x1 n2x1 s2x2 n2x2 s3x0 n3x0 s3x1 n3x1 s3x2 n3x2 i4 i5 r49.2 Q
      )
    )
  else
    (
    Q (.exit 2) (S49xe2 s0 n0 s2x0 n2x0 s2x1 n2x1 s2x2 n2x2 s3x0 n3x0 s3x1 n3x1 s3x2 n3x2 i4 h)
    )
  ) := by kernel_rfl
theorem L49x15xeq (s0 : SA) (n0 : Nat) (s2x0 : SA) (n2x0 : Nat) (s2x1 : SA) (n2x1 : Nat) (s2x2 : SA) (n2x2 : Nat) (s3x0 : SA) (n3x0 : Nat) (s3x1 : SA) (n3x1 : Nat) (s3x2 : SA) (n3x2 : Nat) (i4 : Int) (i5 : Int) (h : Heap) (Q : Kont R) : L49x15 mk0 C s0 n0 s2x0 n2x0 s2x1 n2x1 s2x2 n2x2 s3x0 n3x0 s3x1 n3x1 s3x2 n3x2 i4 i5 h Q = (
  letK ((decide ((i5 : Int) < ((n0 : Nat) : Int))) : Bool) fun b38 =>
  if b38 = true then
    (
    chk (true = true → (0 : Int) ≤ i4 ∧ (i4 : Int) < ((n0 : Nat) : Int)) <|
    atP (adP s0) true fun a43 =>
    gCells (ldN h (Ad.add a43 (Int.toNat i4 * 5)) 5) true fun l44 =>
    gI .i64 (l44[0]?) true fun i44x0 =>
    gI .i64 (l44[1]?) true fun i44x1 =>
    gI .i64 (l44[2]?) true fun i44x2 =>
    gI .i64 (l44[3]?) true fun i44x3 =>
    gI .i64 (l44[4]?) true fun i44x4 =>
    chk (true = true → (0 : Int) ≤ i5 ∧ (i5 : Int) < ((n0 : Nat) : Int)) <|
    atP (adP s0) true fun a47 =>
    gCells (ldN h (Ad.add a47 (Int.toNat i5 * 5)) 5) true fun l48 =>
    gI .i64 (l48[0]?) true fun i48x0 =>
    gI .i64 (l48[1]?) true fun i48x1 =>
    gI .i64 (l48[2]?) true fun i48x2 =>
    gI .i64 (l48[3]?) true fun i48x3 =>
    gI .i64 (l48[4]?) true fun i48x4 =>
    (C 23 [(.agg [(.int .i64 i44x0), (.int .i64 i44x1), (.int .i64 i44x2), (.int .i64 i44x3), (.int .i64 i44x4)]), (.agg [(.int .i64 i48x0), (.int .i64 i48x1), (.int .i64 i48x2), (.int .i64 i48x3), (.int .i64 i48x4)])] h).bind fun r49 =>
    gB (some r49.1) true fun b49 =>
    if b49 = true then
      (
      chk (true = true → (0 : Int) ≤ i4 ∧ (i4 : Int) < ((n3x1 : Nat) : Int)) <|
      atP (adP s3x1) true fun a56 =>
      gL (ld1 r49.2 (Ad.add a56 (Int.toNat i4 * 1))) true fun s57 n57 =>
      newK r49.2 (.cells [(.int .i64 i5)] (.grow 1) 0) fun h_2 =>
      (ldSl h_2 (.pos ⟨List.length r49.2, 0, 0⟩) (1 * 1)).bind fun y60 =>
      (apnd h_2 (.sl s57 n57) 1 8 y60 1).bind fun r60 =>
      gL (some r60.1) true fun s60 n60 =>
      chk (true = true → (0 : Int) ≤ i4 ∧ (i4 : Int) < ((n3x1 : Nat) : Int)) <|
      atP (adP s3x1) true fun a61 =>
      (st1 r60.2 (Ad.add a61 (Int.toNat i4 * 1)) (.sl s60 n60)).bind fun h_3 =>
      chk (true = true → (0 : Int) ≤ i5 ∧ (i5 : Int) < ((n3x0 : Nat) : Int)) <|
      atP (adP s3x0) true fun a65 =>
      gI .i64 (ld1 h_3 (Ad.add a65 (Int.toNat i5 * 1))) true fun i66 =>
      letK ((IntKind.wrap .i64 (i66 + 1)) : Int) fun i67 =>
      chk (true = true → (0 : Int) ≤ i5 ∧ (i5 : Int) < ((n3x0 : Nat) : Int)) <|
      atP (adP s3x0) true fun a68 =>
      (st1 h_3 (Ad.add a68 (Int.toNat i5 * 1)) (.int .i64 i67)).bind fun h_4 =>
      chk (true = true → (0 : Int) ≤ i4 ∧ (i4 : Int) < ((n3x2 : Nat) : Int)) <|
      atP (adP s3x2) true fun a75 =>
      gI .i64 (ld1 h_4 (Ad.add a75 (Int.toNat i4 * 1))) true fun i76 =>
      chk (true = true → (0 : Int) ≤ i4 ∧ (i4 : Int) < ((n0 : Nat) : Int)) <|
      atP (adP s0) true fun a79 =>
      gI .i64 (ld1 h_4 (Ad.add (Ad.add a79 (Int.toNat i4 * 5)) 0)) true fun i81 =>
      chk (true = true → (0 : Int) ≤ i5 ∧ (i5 : Int) < ((n3x2 : Nat) : Int)) <|
      atP (adP s3x2) true fun a86 =>
      gI .i64 (ld1 h_4 (Ad.add a86 (Int.toNat i5 * 1))) true fun i87 =>
      (C 44 [(.int .i64 i81)] h_4).bind fun r82 =>
      gI .i64 (some r82.1) true fun i82 =>
      chkC (true = true → ldN r82.2 (Ad.add a75 (Int.toNat i4 * 1)) 1 = ldN h_4 (Ad.add a75 (Int.toNat i4 * 1)) 1) <|
      chkC (true = true → ldN r82.2 (Ad.add a86 (Int.toNat i5 * 1)) 1 = ldN h_4 (Ad.add a86 (Int.toNat i5 * 1)) 1) <|
      letK ((IntKind.wrap .i64 (i82 + i87)) : Int) fun i88 =>
      letK ((foldMM true i76 [i88]) : Int) fun i89 =>
      chk (true = true → (0 : Int) ≤ i4 ∧ (i4 : Int) < ((n3x2 : Nat) : Int)) <|
      atP (adP s3x2) true fun a90 =>
      (st1 r82.2 (Ad.add a90 (Int.toNat i4 * 1)) (.int .i64 i89)).bind fun h_5 =>
      J49x26 mk0 C s0 n0 s2x0 n2x0 s2x1 n2x1 s2x2 n2x2 s3x0 n3x0 s3x1 n3x1 s3x2 n3x2 i4 i5 h_5 Q
      )
    else
      (
      J49x26 mk0 C s0 n0 s2x0 n2x0 s2x1 n2x1 s2x2 n2x2 s3x0 n3x0 s3x1 n3x1 s3x2 n3x2 i4 i5 r49.2 Q
      )
    )
  else
    (
    Q (.exit 2) (S49xe2 s0 n0 s2x0 n2x0 s2x1 n2x1 s2x2 n2x2 s3x0 n3x0 s3x1 n3x1 s3x2 n3x2 i4 h)
    )
  ) := loop_eqn C k49x15 61 29 (.g [] true (.sl s0 n0) :: (.any :: (.box [(.sl s2x0 n2x0), (.sl s2x1 n2x1), (.sl s2x2 n2x2)] :: (.box [(.sl s3x0 n3x0), (.sl s3x1 n3x1), (.sl s3x2 n3x2)] :: (.g [] true (.int .i64 i4) :: (.g [] true (.int .i64 i5) :: (rep 86 []))))))) h Q (by kernel_rfl) (L49x15xaux mk0 C s0 n0 s2x0 n2x0 s2x1 n2x1 s2x2 n2x2 s3x0 n3x0 s3x1 n3x1 s3x2 n3x2 i4 i5 h Q)
theorem J49x26xaux (M : Mk) (C : Cal) (s0 : SA) (n0 : Nat) (s2x0 : SA) (n2x0 : Nat) (s2x1 : SA) (n2x1 : Nat) (s2x2 : SA) (n2x2 : Nat) (s3x0 : SA) (n3x0 : Nat) (s3x1 : SA) (n3x1 : Nat) (s3x2 : SA) (n3x2 : Nat) (i4 : Int) (i5 : Int) (h : Heap) (Q : Kont R) : (forceK tk (.g [] true (.sl s0 n0) :: (.any :: (.box [(.sl s2x0 n2x0), (.sl s2x1 n2x1), (.sl s2x2 n2x2)] :: (.box [(.sl s3x0 n3x0), (.sl s3x1 n3x1), (.sl s3x2 n3x2)] :: (.g [] true (.int .i64 i4) :: (.g [] true (.int .i64 i5) :: (rep 86 []))))))) fun e => (blockQ 3 (seqQ (evalE M C k49x21) (seqQ (evalE M C k49x20) (roundQ M C k49x15 61 29 Q)))) .normal ⟨e, h⟩) = (
  letK ((IntKind.wrap .i64 (i5 + 1)) : Int) fun i40 =>
  L49x15 M C s0 n0 s2x0 n2x0 s2x1 n2x1 s2x2 n2x2 s3x0 n3x0 s3x1 n3x1 s3x2 n3x2 i4 i40 h Q
  ) := by kernel_rfl
theorem J49x26xeq (C : Cal) (s0 : SA) (n0 : Nat) (s2x0 : SA) (n2x0 : Nat) (s2x1 : SA) (n2x1 : Nat) (s2x2 : SA) (n2x2 : Nat) (s3x0 : SA) (n3x0 : Nat) (s3x1 : SA) (n3x1 : Nat) (s3x2 : SA) (n3x2 : Nat) (i4 : Int) (i5 : Int) (h : Heap) (Q : Kont R) : J49x26 mk0 C s0 n0 s2x0 n2x0 s2x1 n2x1 s2x2 n2x2 s3x0 n3x0 s3x1 n3x1 s3x2 n3x2 i4 i5 h Q = (
  letK ((IntKind.wrap .i64 (i5 + 1)) : Int) fun i40 =>
  L49x15 mk0 C s0 n0 s2x0 n2x0 s2x1 n2x1 s2x2 n2x2 s3x0 n3x0 s3x1 n3x1 s3x2 n3x2 i4 i40 h Q
  ) := join_eqn (blockQ 3 (seqQ (evalE mk0 C k49x21) (seqQ (evalE mk0 C k49x20) (roundQ mk0 C k49x15 61 29 Q)))) (.g [] true (.sl s0 n0) :: (.any :: (.box [(.sl s2x0 n2x0), (.sl s2x1 n2x1), (.sl s2x2 n2x2)] :: (.box [(.sl s3x0 n3x0), (.sl s3x1 n3x1), (.sl s3x2 n3x2)] :: (.g [] true (.int .i64 i4) :: (.g [] true (.int .i64 i5) :: (rep 86 []))))))) h (J49x26xaux mk0 C s0 n0 s2x0 n2x0 s2x1 n2x1 s2x2 n2x2 s3x0 n3x0 s3x1 n3x1 s3x2 n3x2 i4 i5 h Q)
theorem X49x5xe0 (M : Mk) (C : Cal) (s2x0 : SA) (n2x0 : Nat) (s2x1 : SA) (n2x1 : Nat) (s2x2 : SA) (n2x2 : Nat) (s3x0 : SA) (n3x0 : Nat) (s3x1 : SA) (n3x1 : Nat) (s3x2 : SA) (n3x2 : Nat) (h : Heap) : Q49x5 M C (.exit 0) (S49xe0 s2x0 n2x0 s2x1 n2x1 s2x2 n2x2 s3x0 n3x0 s3x1 n3x1 s3x2 n3x2 h) = (
  some ((.agg [(.sl s3x0 n3x0), (.sl s3x1 n3x1), (.sl s3x2 n3x2)]), h)
  ) := by kernel_rfl
theorem X49x15xe2 (M : Mk) (C : Cal) (s0 : SA) (n0 : Nat) (s2x0 : SA) (n2x0 : Nat) (s2x1 : SA) (n2x1 : Nat) (s2x2 : SA) (n2x2 : Nat) (s3x0 : SA) (n3x0 : Nat) (s3x1 : SA) (n3x1 : Nat) (s3x2 : SA) (n3x2 : Nat) (i4 : Int) (h : Heap) (Q : Kont R) : Q49x15 M C Q (.exit 2) (S49xe2 s0 n0 s2x0 n2x0 s2x1 n2x1 s2x2 n2x2 s3x0 n3x0 s3x1 n3x1 s3x2 n3x2 i4 h) = (
  letK ((IntKind.wrap .i64 (i4 - 1)) : Int) fun i22 =>
  L49x5 M C s0 n0 s2x0 n2x0 s2x1 n2x1 s2x2 n2x2 s3x0 n3x0 s3x1 n3x1 s3x2 n3x2 i22 h Q
  ) := by kernel_rfl
def k50x9 : AC := .exit 0
def k50x8 : AC := .mask 460392
def k50x16 : AC := .exit 1
def k50x15 : AC := .mask 466536
def k50x14 : AC := .seq (.cond (.tmp 34)
   (.seq (.mask 460392) k50x16)
   (.skip)) k50x15
def k50x19 : AC := .join 460392
def k50x18 : AC := .seq (.cond (.tmp 66)
   (.ops false [
      ⟨(some 67), .move (.tmp 11), none, []⟩,
      ⟨(some 68), .move (.tmp 14), none, []⟩,
      ⟨(some 9), .move (.tmp 67), none, []⟩,
      ⟨(some 10), .move (.tmp 68), none, []⟩])
   (.skip)) k50x19
def k50x17 : AC := .seq (.ops true [
    ⟨(some 42), .move (.tmp 9), none, []⟩,
    ⟨(some 43), .bin .other .lss (.tmp 42) (.c (.int .i64 0)), none, []⟩,
    ⟨(some 44), .move (.tmp 43), none, []⟩,
    ⟨(some 45), .move (.tmp 14), (some (44, false)), []⟩,
    ⟨(some 46), .move (.tmp 10), (some (44, false)), []⟩,
    ⟨(some 47), .bin .other .lss (.tmp 45) (.tmp 46), (some (44, false)), []⟩,
    ⟨(some 48), .pick (.tmp 44) (.c (.bool true)) (.tmp 47), none, []⟩,
    ⟨(some 49), .move (.tmp 48), none, []⟩,
    ⟨(some 50), .move (.tmp 14), (some (49, false)), []⟩,
    ⟨(some 51), .move (.tmp 10), (some (49, false)), []⟩,
    ⟨(some 52), .bin .other .eql (.tmp 50) (.tmp 51), (some (49, false)), []⟩,
    ⟨(some 53), .move (.tmp 52), (some (49, false)), []⟩,
    ⟨(some 54), .fieldAddr 2 (.tmp 5), (some (53, true)), []⟩,
    ⟨(some 55), .load (.cell .sl) (.tmp 54), (some (53, true)), []⟩,
    ⟨(some 56), .move (.tmp 11), (some (53, true)), []⟩,
    ⟨(some 57), .indexAddr 1 (.tmp 55) (.tmp 56), (some (53, true)), []⟩,
    ⟨(some 58), .load (.cell (.int .i64)) (.tmp 57), (some (53, true)), []⟩,
    ⟨(some 59), .fieldAddr 2 (.tmp 5), (some (53, true)), []⟩,
    ⟨(some 60), .load (.cell .sl) (.tmp 59), (some (53, true)), []⟩,
    ⟨(some 61), .move (.tmp 9), (some (53, true)), []⟩,
    ⟨(some 62), .indexAddr 1 (.tmp 60) (.tmp 61), (some (53, true)), []⟩,
    ⟨(some 63), .load (.cell (.int .i64)) (.tmp 62), (some (53, true)), []⟩,
    ⟨(some 64), .bin .other .gtr (.tmp 58) (.tmp 63), (some (53, true)), []⟩,
    ⟨(some 65), .pick (.tmp 53) (.tmp 64) (.c (.bool false)), (some (49, false)), []⟩,
    ⟨(some 66), .pick (.tmp 49) (.c (.bool true)) (.tmp 65), none, []⟩]) k50x18
def k50x13 : AC := .seq (.ops false [
    ⟨(some 36), .load (.raw 20) (.tmp 6), none, []⟩,
    ⟨(some 37), .load (.agg [(.int .i64), (.int .i64), (.int .i64), (.int .i64), (.int .i64)]) (.tmp 12), none, []⟩,
    ⟨(some 38), .call 30 [(.tmp 36), (.tmp 37), (.c (.int .i64 0))] [(.raw 20), (.cell (.int .i64)), (.cell (.int .i64))] .opq, none, []⟩,
    ⟨(some 35), .move (.tmp 38), none, []⟩,
    ⟨(some 39), .extract (.tmp 35) 0, none, []⟩,
    ⟨(some 40), .extract (.tmp 35) 1, none, []⟩,
    ⟨(some 41), .extract (.tmp 35) 2, none, []⟩,
    ⟨(some 13), .allocL [(.int .i64 0), (.int .i64 0), (.int .i64 0), (.int .i64 0), (.int .i64 0), (.int .i64 0), (.int .i64 0), (.int .i64 0), (.int .i64 0), (.int .i64 0), (.int .i64 0), (.int .i64 0), (.int .i64 0), (.int .i64 0), (.int .i64 0), (.int .i64 0), (.int .i64 0), (.int .i64 0), (.int .i64 0), (.sl .nil 0)], none, []⟩,
    ⟨none, .store 20 (.tmp 13) (.tmp 39), none, []⟩,
    ⟨(some 14), .move (.tmp 40), none, []⟩,
    ⟨(some 15), .move (.tmp 41), none, []⟩]) k50x17
def k50x12 : AC := .seq (.seq (.ops true [
    ⟨(some 23), .move (.tmp 3), none, []⟩,
    ⟨(some 24), .move (.tmp 11), none, []⟩,
    ⟨(some 25), .indexAddr 1 (.tmp 23) (.tmp 24), none, []⟩,
    ⟨(some 26), .load (.cell .bool) (.tmp 25), none, []⟩,
    ⟨(some 27), .move (.tmp 26), none, []⟩,
    ⟨(some 28), .fieldAddr 0 (.tmp 5), (some (27, false)), []⟩,
    ⟨(some 29), .load (.cell .sl) (.tmp 28), (some (27, false)), []⟩,
    ⟨(some 30), .move (.tmp 11), (some (27, false)), []⟩,
    ⟨(some 31), .indexAddr 1 (.tmp 29) (.tmp 30), (some (27, false)), []⟩,
    ⟨(some 32), .load (.cell (.int .i64)) (.tmp 31), (some (27, false)), []⟩,
    ⟨(some 33), .bin .other .gtr (.tmp 32) (.c (.int .i64 0)), (some (27, false)), []⟩,
    ⟨(some 34), .pick (.tmp 27) (.c (.bool true)) (.tmp 33), none, []⟩]) k50x14) k50x13
def k50x11 : AC := .join 460392
def k50x10 : AC := .ops false [
    ⟨(some 69), .bin .other .add (.tmp 18) (.c (.int .i64 1)), none, []⟩,
    ⟨(some 18), .move (.tmp 69), none, []⟩]
def k50x7 : AC := .seq (.seq (.block 1 (.seq (.ops false [
     ⟨(some 20), .move (.tmp 18), none, []⟩,
     ⟨(some 21), .indexAddr 5 (.tmp 16) (.tmp 18), none, []⟩,
     ⟨(some 22), .load (.agg [(.int .i64), (.int .i64), (.int .i64), (.int .i64), (.int .i64)]) (.tmp 21), none, []⟩,
     ⟨(some 12), .allocL [(.int .i64 0), (.int .i64 0), (.int .i64 0), (.int .i64 0), (.int .i64 0)], none, []⟩,
     ⟨(some 11), .move (.tmp 20), none, []⟩,
     ⟨none, .store 5 (.tmp 12) (.tmp 22), none, []⟩]) k50x12)) k50x11) k50x10
def k50x6 : AC := .seq (.seq (.cond (.tmp 19)
   (.skip)
   (.seq (.mask 512) k50x9)) k50x8) k50x7
def k50x5 : AC := .seq (.ops false [
    ⟨(some 19), .bin .other .lss (.tmp 18) (.tmp 17), none, []⟩]) k50x6
def k50x4 : AC := .mask 512
def k50x3 : AC := .seq (.block 0 (.loop 460392 512 k50x5)) k50x4
def k50x23 : AC := .ret
def k50x22 : AC := .seq (.mask 256) k50x23
def k50x2 : AC := .seq (.ops false [
    ⟨(some 70), .move (.tmp 9), none, []⟩,
    ⟨(some 8), .move (.tmp 70), none, []⟩]) k50x22
def k50x1 : AC := .seq (.seq (.ops false [
    ⟨(some 16), .move (.tmp 0), none, []⟩,
    ⟨(some 17), .lenSl (.tmp 16), none, []⟩,
    ⟨(some 18), .move (.c (.int .i64 0)), none, []⟩]) k50x3) k50x2
def k50x0 : AC := .seq (.ops false [
    ⟨(some 9), .move (.c (.int .i64 (-1))), none, []⟩,
    ⟨(some 10), .move (.c (.int .i64 0)), none, []⟩]) k50x1
/-- provenance/sched.pick -/
def c50 : AFn := ⟨71, [.tmp 8],
  .seq (.ops false [
    ⟨(some 5), .boxL (.tmp 1), none, []⟩,
    ⟨(some 6), .boxL (.tmp 2), none, []⟩,
    ⟨(some 8), .move (.c (.int .i64 0)), none, []⟩]) k50x0⟩
def S50xe0 (i9 : Int) (h : Heap) : St := ⟨(rep 9 (.g [] true (.int .i64 i9) :: (rep 61 []))), h⟩
noncomputable def Q50x5 (M : Mk) (C : Cal) : Kont (AV × Heap) := (blockQ 0 (seqQ (evalE M C k50x4) (seqQ (evalE M C k50x2) (endQ [.tmp 8]))))
noncomputable def L50x5 (s3 : SA) (n3 : Nat) (s5x0 : SA) (n5x0 : Nat) (s5x1 : SA) (n5x1 : Nat) (s5x2 : SA) (n5x2 : Nat) (l6 : List AV) (i9 : Int) (i10 : Int) (s16 : SA) (n16 : Nat) (i17 : Int) (i18 : Int) (h : Heap) (Q : Kont R) : Option R := loopE (evalE M C k50x5) 460392 512 ⟨(rep 3 (.g [] true (.sl s3 n3) :: (.any :: (.box [(.sl s5x0 n5x0), (.sl s5x1 n5x1), (.sl s5x2 n5x2)] :: (.box l6 :: (.any :: .any :: (.g [] true (.int .i64 i9) :: (.g [] true (.int .i64 i10) :: (rep 5 (.g [] true (.sl s16 n16) :: (.g [] true (.int .i64 i17) :: (.g [] true (.int .i64 i18) :: (rep 52 []))))))))))))), h⟩ Q
noncomputable def J50x21 (M : Mk) (C : Cal) (s3 : SA) (n3 : Nat) (s5x0 : SA) (n5x0 : Nat) (s5x1 : SA) (n5x1 : Nat) (s5x2 : SA) (n5x2 : Nat) (l6 : List AV) (i9 : Int) (i10 : Int) (s16 : SA) (n16 : Nat) (i17 : Int) (i18 : Int) (h : Heap) (Q : Kont R) : Option R := M R (seqQ (evalE M C k50x10) (roundQ M C k50x5 460392 512 Q)) (rep 3 (.g [] true (.sl s3 n3) :: (.any :: (.box [(.sl s5x0 n5x0), (.sl s5x1 n5x1), (.sl s5x2 n5x2)] :: (.box l6 :: (.any :: .any :: (.g [] true (.int .i64 i9) :: (.g [] true (.int .i64 i10) :: (rep 5 (.g [] true (.sl s16 n16) :: (.g [] true (.int .i64 i17) :: (.g [] true (.int .i64 i18) :: (rep 52 []))))))))))))) h
noncomputable def J50x20 (M : Mk) (C : Cal) (s3 : SA) (n3 : Nat) (s5x0 : SA) (n5x0 : Nat) (s5x1 : SA) (n5x1 : Nat) (s5x2 : SA) (n5x2 : Nat) (l6 : List AV) (i9 : Int) (i10 : Int) (s16 : SA) (n16 : Nat) (i17 : Int) (i18 : Int) (h : Heap) (Q : Kont R) : Option R := M R (blockQ 1 (seqQ (evalE M C k50x11) (seqQ (evalE M C k50x10) (roundQ M C k50x5 460392 512 Q)))) (rep 3 (.g [] true (.sl s3 n3) :: (.any :: (.box [(.sl s5x0 n5x0), (.sl s5x1 n5x1), (.sl s5x2 n5x2)] :: (.box l6 :: (.any :: .any :: (.g [] true (.int .i64 i9) :: (.g [] true (.int .i64 i10) :: (rep 5 (.g [] true (.sl s16 n16) :: (.g [] true (.int .i64 i17) :: (.g [] true (.int .i64 i18) :: (rep 52 []))))))))))))) h
theorem r50 (s0 : SA) (n0 : Nat) (s1x0 : SA) (n1x0 : Nat) (s1x1 : SA) (n1x1 : Nat) (s1x2 : SA) (n1x2 : Nat) (l2 : List AV) (s3 : SA) (n3 : Nat) (h : Heap) : runE M C c50 [(.sl s0 n0), (.agg [(.sl s1x0 n1x0), (.sl s1x1 n1x1), (.sl s1x2 n1x2)]), (.agg l2), (.sl s3 n3)] h = (
  L50x5 M C s3 n3 s1x0 n1x0 s1x1 n1x1 s1x2 n1x2 l2 (-1) 0 s0 n0 ((n0 : Nat) : Int) 0 h (Q50x5 M C)
  ) := by kernel_rfl
theorem cf50 : cFn Try.prog 50 = some c50 := by kernel_rfl
theorem e50 (s0 : SA) (n0 : Nat) (s1x0 : SA) (n1x0 : Nat) (s1x1 : SA) (n1x1 : Nat) (s1x2 : SA) (n1x2 : Nat) (l2 : List AV) (s3 : SA) (n3 : Nat) (h : Heap) : E 50 [(.sl s0 n0), (.agg [(.sl s1x0 n1x0), (.sl s1x1 n1x1), (.sl s1x2 n1x2)]), (.agg l2), (.sl s3 n3)] h = (
  L50x5 mk0 E s3 n3 s1x0 n1x0 s1x1 n1x1 s1x2 n1x2 l2 (-1) 0 s0 n0 ((n0 : Nat) : Int) 0 h (Q50x5 mk0 E)
  ) := (EV_eq (P := Try.prog) (T := T0) rfl cf50 [(.sl s0 n0), (.agg [(.sl s1x0 n1x0), (.sl s1x1 n1x1), (.sl s1x2 n1x2)]), (.agg l2), (.sl s3 n3)] h).trans (r50 mk0 E s0 n0 s1x0 n1x0 s1x1 n1x1 s1x2 n1x2 l2 s3 n3 h)
theorem L50x5xaux (s3 : SA) (n3 : Nat) (s5x0 : SA) (n5x0 : Nat) (s5x1 : SA) (n5x1 : Nat) (s5x2 : SA) (n5x2 : Nat) (l6 : List AV) (i9 : Int) (i10 : Int) (s16 : SA) (n16 : Nat) (i17 : Int) (i18 : Int) (h : Heap) (Q : Kont R) : (restrF 460392 ⟨(rep 3 (.g [] true (.sl s3 n3) :: (.any :: (.box [(.sl s5x0 n5x0), (.sl s5x1 n5x1), (.sl s5x2 n5x2)] :: (.box l6 :: (.any :: .any :: (.g [] true (.int .i64 i9) :: (.g [] true (.int .i64 i10) :: (rep 5 (.g [] true (.sl s16 n16) :: (.g [] true (.int .i64 i17) :: (.g [] true (.int .i64 i18) :: (rep 52 []))))))))))))), h⟩ fun σ => evalE M C k50x5 σ (roundQ M C k50x5 460392 512 Q)) = (
  letK ((decide ((i18 : Int) < i17)) : Bool) fun b19 =>
  if b19 = true then
    (
    chk (true = true → (0 : Int) ≤ i18 ∧ (i18 : Int) < ((n16 : Nat) : Int)) <|
    atP (adP s16) true fun a21 =>
    gCells (ldN h (Ad.add a21 (Int.toNat i18 * 5)) 5) true fun l22 =>
    gI .i64 (l22[0]?) true fun i22x0 =>
    gI .i64 (l22[1]?) true fun i22x1 =>
    gI .i64 (l22[2]?) true fun i22x2 =>
    gI .i64 (l22[3]?) true fun i22x3 =>
    gI .i64 (l22[4]?) true fun i22x4 =>
    chk (true = true → (0 : Int) ≤ i18 ∧ (i18 : Int) < ((n3 : Nat) : Int)) <|
    atP (adP s3) true fun a25 =>
    gB (ld1 h (Ad.add a25 (Int.toNat i18 * 1))) true fun b26 =>
    gL (some (.sl s5x0 n5x0)) (!b26) fun s29 n29 =>
    chk ((!b26) = true → (0 : Int) ≤ i18 ∧ (i18 : Int) < ((n29 : Nat) : Int)) <|
    atP (adP s29) (!b26) fun a31 =>
    atP (some (Ad.add a31 (Int.toNat i18 * 1))) (!b26) fun a32 =>
    gI .i64 (ld1 h a32) (!b26) fun i32 =>
    letK ((decide ((0 : Int) < i32)) : Bool) fun b33 =>
    letK ((if b26 = true then true else b33) : Bool) fun b34 =>
    if b34 = true then
      (
      J50x21 M C s3 n3 s5x0 n5x0 s5x1 n5x1 s5x2 n5x2 l6 i9 i10 s16 n16 i17 i18 h Q
      )
    else
      (
      chk (true = true → 0 + 20 ≤ List.length l6) <|
      (C 30 [(.agg ((List.drop 0 l6).take 20)), (.agg [(.int .i64 i22x0), (.int .i64 i22x1), (.int .i64 i22x2), (.int .i64 i22x3), (.int .i64 i22x4)]), (.int .i64 0)] h).bind fun r38 =>
      gT 3 r38.1 true fun u38 =>
      gA (List.getD u38 0 .opq) true fun l38x0 =>
      chk (true = true → l38x0.length = 20) <|
      gI .i64 (some (List.getD u38 1 .opq)) true fun i38x1 =>
      gI .i64 (some (List.getD u38 2 .opq)) true fun i38x2 =>
      chk (List.length l38x0 = 20 ∧ flatL l38x0 = true ∧ 0 + 20 ≤ 20) <|
      letK (splice 0 l38x0 [(.int .i64 0), (.int .i64 0), (.int .i64 0), (.int .i64 0), (.int .i64 0), (.int .i64 0), (.int .i64 0), (.int .i64 0), (.int .i64 0), (.int .i64 0), (.int .i64 0), (.int .i64 0), (.int .i64 0), (.int .i64 0), (.int .i64 0), (.int .i64 0), (.int .i64 0), (.int .i64 0), (.int .i64 0), (.sl .nil 0)]) fun lx =>
      letK ((decide ((i9 : Int) < 0)) : Bool) fun b43 =>
      letK ((decide ((i38x1 : Int) < i10)) : Bool) fun b47 =>
      letK ((if b43 = true then true else b47) : Bool) fun b48 =>
      letK ((decide ((i38x1 : Int) = i10)) : Bool) fun b52 =>
      gL (some (.sl s5x2 n5x2)) (andB (!b48) b52) fun s55 n55 =>
      chk ((andB (!b48) b52) = true → (0 : Int) ≤ i18 ∧ (i18 : Int) < ((n55 : Nat) : Int)) <|
      atP (adP s55) (andB (!b48) b52) fun a57 =>
      atP (some (Ad.add a57 (Int.toNat i18 * 1))) (andB (!b48) b52) fun a58 =>
      gI .i64 (ld1 r38.2 a58) (andB (!b48) b52) fun i58 =>
      gL (some (.sl s5x2 n5x2)) (andB (!b48) b52) fun s60 n60 =>
      chk ((andB (!b48) b52) = true → (0 : Int) ≤ i9 ∧ (i9 : Int) < ((n60 : Nat) : Int)) <|
      atP (adP s60) (andB (!b48) b52) fun a62 =>
      atP (some (Ad.add a62 (Int.toNat i9 * 1))) (andB (!b48) b52) fun a63 =>
      gI .i64 (ld1 r38.2 a63) (andB (!b48) b52) fun i63 =>
      letK ((decide ((i63 : Int) < i58)) : Bool) fun b64 =>
      letK ((if b52 = true then b64 else false) : Bool) fun b65 =>
      letK ((if b48 = true then true else b65) : Bool) fun b66 =>
      if b66 = true then
        (
        J50x20 M C s3 n3 s5x0 n5x0 s5x1 n5x1 s5x2 n5x2 l6 i18 i38x1 s16 n16 i17 i18 r38.2 Q
        )
      else
        (
        J50x20 M C s3 n3 s5x0 n5x0 s5x1 n5x1 s5x2 n5x2 l6 i9 i10 s16 n16 i17 i18 r38.2 Q
        )
      )
    )
  else
    (
    Q (.exit 0) (S50xe0 i9 h)
    )
  ) := by kernel_rfl
theorem L50x5xeq (s3 : SA) (n3 : Nat) (s5x0 : SA) (n5x0 : Nat) (s5x1 : SA) (n5x1 : Nat) (s5x2 : SA) (n5x2 : Nat) (l6 : List AV) (i9 : Int) (i10 : Int) (s16 : SA) (n16 : Nat) (i17 : Int) (i18 : Int) (h : Heap) (Q : Kont R) : L50x5 mk0 C s3 n3 s5x0 n5x0 s5x1 n5x1 s5x2 n5x2 l6 i9 i10 s16 n16 i17 i18 h Q = (
  letK ((decide ((i18 : Int) < i17)) : Bool) fun b19 =>
  if b19 = true then
    (
    chk (true = true → (0 : Int) ≤ i18 ∧ (i18 : Int) < ((n16 : Nat) : Int)) <|
    atP (adP s16) true fun a21 =>
    gCells (ldN h (Ad.add a21 (Int.toNat i18 * 5)) 5) true fun l22 =>
    gI .i64 (l22[0]?) true fun i22x0 =>
    gI .i64 (l22[1]?) true fun i22x1 =>
    gI .i64 (l22[2]?) true fun i22x2 =>
    gI .i64 (l22[3]?) true fun i22x3 =>
    gI .i64 (l22[4]?) true fun i22x4 =>
    chk (true = true → (0 : Int) ≤ i18 ∧ (i18 : Int) < ((n3 : Nat) : Int)) <|
    atP (adP s3) true fun a25 =>
    gB (ld1 h (Ad.add a25 (Int.toNat i18 * 1))) true fun b26 =>
    gL (some (.sl s5x0 n5x0)) (!b26) fun s29 n29 =>
    chk ((!b26) = true → (0 : Int) ≤ i18 ∧ (i18 : Int) < ((n29 : Nat) : Int)) <|
    atP (adP s29) (!b26) fun a31 =>
    atP (some (Ad.add a31 (Int.toNat i18 * 1))) (!b26) fun a32 =>
    gI .i64 (ld1 h a32) (!b26) fun i32 =>
    letK ((decide ((0 : Int) < i32)) : Bool) fun b33 =>
    letK ((if b26 = true then true else b33) : Bool) fun b34 =>
    if b34 = true then
      (
      J50x21 mk0 C s3 n3 s5x0 n5x0 s5x1 n5x1 s5x2 n5x2 l6 i9 i10 s16 n16 i17 i18 h Q
      )
    else
      (
      chk (true = true → 0 + 20 ≤ List.length l6) <|
      (C 30 [(.agg ((List.drop 0 l6).take 20)), (.agg [(.int .i64 i22x0), (.int .i64 i22x1), (.int .i64 i22x2), (.int .i64 i22x3), (.int .i64 i22x4)]), (.int .i64 0)] h).bind fun r38 =>
      gT 3 r38.1 true fun u38 =>
      gA (List.getD u38 0 .opq) true fun l38x0 =>
      chk (true = true → l38x0.length = 20) <|
      gI .i64 (some (List.getD u38 1 .opq)) true fun i38x1 =>
      gI .i64 (some (List.getD u38 2 .opq)) true fun i38x2 =>
      chk (List.length l38x0 = 20 ∧ flatL l38x0 = true ∧ 0 + 20 ≤ 20) <|
      letK (splice 0 l38x0 [(.int .i64 0), (.int .i64 0), (.int .i64 0), (.int .i64 0), (.int .i64 0), (.int .i64 0), (.int .i64 0), (.int .i64 0), (.int .i64 0), (.int .i64 0), (.int .i64 0), (.int .i64 0), (.int .i64 0), (.int .i64 0), (.int .i64 0), (.int .i64 0), (.int .i64 0), (.int .i64 0), (.int .i64 0), (.sl .nil 0)]) fun lx =>
      letK ((decide ((i9 : Int) < 0)) : Bool) fun b43 =>
      letK ((decide ((i38x1 : Int) < i10)) : Bool) fun b47 =>
      letK ((if b43 = true then true else b47) : Bool) fun b48 =>
      letK ((decide ((i38x1 : Int) = i10)) : Bool) fun b52 =>
      gL (some (.sl s5x2 n5x2)) (andB (!b48) b52) fun s55 n55 =>
      chk ((andB (!b48) b52) = true → (0 : Int) ≤ i18 ∧ (i18 : Int) < ((n55 : Nat) : Int)) <|
      atP (adP s55) (andB (!b48) b52) fun a57 =>
      atP (some (Ad.add a57 (Int.toNat i18 * 1))) (andB (!b48) b52) fun a58 =>
      gI .i64 (ld1 r38.2 a58) (andB (!b48) b52) fun i58 =>
      gL (some (.sl s5x2 n5x2)) (andB (!b48) b52) fun s60 n60 =>
      chk ((andB (!b48) b52) = true → (0 : Int) ≤ i9 ∧ (i9 : Int) < ((n60 : Nat) : Int)) <|
      atP (adP s60) (andB (!b48) b52) fun a62 =>
      atP (some (Ad.add a62 (Int.toNat i9 * 1))) (andB (!b48) b52) fun a63 =>
      gI .i64 (ld1 r38.2 a63) (andB (!b48) b52) fun i63 =>
      letK ((decide ((i63 : Int) < i58)) : Bool) fun b64 =>
      letK ((if b52 = true then b64 else false) : Bool) fun b65 =>
      letK ((if b48 = true then true else b65) : Bool) fun b66 =>
      if b66 = true then
        (
        J50x20 mk0 C s3 n3 s5x0 n5x0 s5x1 n5x1 s5x2 n5x2 l6 i18 i38x1 s16 n16 i17 i18 r38.2 Q
        )
      else
        (
        J50x20 mk0 C s3 n3 s5x0 n5x0 s5x1 n5x1 s5x2 n5x2 l6 i9 i10 s16 n16 i17 i18 r38.2 Q
        )
      )
    )
  else
    (
    Q (.exit 0) (S50xe0 i9 h)
    )
  ) := loop_eqn C k50x5 460392 512 (rep 3 (.g [] true (.sl s3 n3) :: (.any :: (.box [(.sl s5x0 n5x0), (.sl s5x1 n5x1), (.sl s5x2 n5x2)] :: (.box l6 :: (.any :: .any :: (.g [] true (.int .i64 i9) :: (.g [] true (.int .i64 i10) :: (rep 5 (.g [] true (.sl s16 n16) :: (.g [] true (.int .i64 i17) :: (.g [] true (.int .i64 i18) :: (rep 52 []))))))))))))) h Q (by kernel_rfl) (L50x5xaux mk0 C s3 n3 s5x0 n5x0 s5x1 n5x1 s5x2 n5x2 l6 i9 i10 s16 n16 i17 i18 h Q)
theorem J50x21xaux (M : Mk) (C : Cal) (s3 : SA) (n3 : Nat) (s5x0 : SA) (n5x0 : Nat) (s5x1 : SA) (n5x1 : Nat) (s5x2 : SA) (n5x2 : Nat) (l6 : List AV) (i9 : Int) (i10 : Int) (s16 : SA) (n16 : Nat) (i17 : Int) (i18 : Int) (h : Heap) (Q : Kont R) : (forceK tk (rep 3 (.g [] true (.sl s3 n3) :: (.any :: (.box [(.sl s5x0 n5x0), (.sl s5x1 n5x1), (.sl s5x2 n5x2)] :: (.box l6 :: (.any :: .any :: (.g [] true (.int .i64 i9) :: (.g [] true (.int .i64 i10) :: (rep 5 (.g [] true (.sl s16 n16) :: (.g [] true (.int .i64 i17) :: (.g [] true (.int .i64 i18) :: (rep 52 []))))))))))))) fun e => (seqQ (evalE M C k50x10) (roundQ M C k50x5 460392 512 Q)) .normal ⟨e, h⟩) = (
  letK ((IntKind.wrap .i64 (i18 + 1)) : Int) fun i69 =>
  L50x5 M C s3 n3 s5x0 n5x0 s5x1 n5x1 s5x2 n5x2 l6 i9 i10 s16 n16 i17 i69 h Q
  ) := by kernel_rfl
theorem J50x21xeq (C : Cal) (s3 : SA) (n3 : Nat) (s5x0 : SA) (n5x0 : Nat) (s5x1 : SA) (n5x1 : Nat) (s5x2 : SA) (n5x2 : Nat) (l6 : List AV) (i9 : Int) (i10 : Int) (s16 : SA) (n16 : Nat) (i17 : Int) (i18 : Int) (h : Heap) (Q : Kont R) : J50x21 mk0 C s3 n3 s5x0 n5x0 s5x1 n5x1 s5x2 n5x2 l6 i9 i10 s16 n16 i17 i18 h Q = (
  letK ((IntKind.wrap .i64 (i18 + 1)) : Int) fun i69 =>
  L50x5 mk0 C s3 n3 s5x0 n5x0 s5x1 n5x1 s5x2 n5x2 l6 i9 i10 s16 n16 i17 i69 h Q
  ) := join_eqn (seqQ (evalE mk0 C k50x10) (roundQ mk0 C k50x5 460392 512 Q)) (rep 3 (.g [] true (.sl s3 n3) :: (.any :: (.box [(.sl s5x0 n5x0), (.sl s5x1 n5x1), (.sl s5x2 n5x2)] :: (.box l6 :: (.any :: .any :: (.g [] true (.int .i64 i9) :: (.g [] true (.int .i64 i10) :: (rep 5 (.g [] true (.sl s16 n16) :: (.g [] true (.int .i64 i17) :: (.g [] true (.int .i64 i18) :: (rep 52 []))))))))))))) h (J50x21xaux mk0 C s3 n3 s5x0 n5x0 s5x1 n5x1 s5x2 n5x2 l6 i9 i10 s16 n16 i17 i18 h Q)
theorem J50x20xaux (M : Mk) (C : Cal) (s3 : SA) (n3 : Nat) (s5x0 : SA) (n5x0 : Nat) (s5x1 : SA) (n5x1 : Nat) (s5x2 : SA) (n5x2 : Nat) (l6 : List AV) (i9 : Int) (i10 : Int) (s16 : SA) (n16 : Nat) (i17 : Int) (i18 : Int) (h : Heap) (Q : Kont R) : (forceK tk (rep 3 (.g [] true (.sl s3 n3) :: (.any :: (.box [(.sl s5x0 n5x0), (.sl s5x1 n5x1), (.sl s5x2 n5x2)] :: (.box l6 :: (.any :: .any :: (.g [] true (.int .i64 i9) :: (.g [] true (.int .i64 i10) :: (rep 5 (.g [] true (.sl s16 n16) :: (.g [] true (.int .i64 i17) :: (.g [] true (.int .i64 i18) :: (rep 52 []))))))))))))) fun e => (blockQ 1 (seqQ (evalE M C k50x11) (seqQ (evalE M C k50x10) (roundQ M C k50x5 460392 512 Q)))) .normal ⟨e, h⟩) = (
  J50x21 M C s3 n3 s5x0 n5x0 s5x1 n5x1 s5x2 n5x2 l6 i9 i10 s16 n16 i17 i18 h Q
  ) := by kernel_rfl
theorem J50x20xeq (C : Cal) (s3 : SA) (n3 : Nat) (s5x0 : SA) (n5x0 : Nat) (s5x1 : SA) (n5x1 : Nat) (s5x2 : SA) (n5x2 : Nat) (l6 : List AV) (i9 : Int) (i10 : Int) (s16 : SA) (n16 : Nat) (i17 : Int) (i18 : Int) (h : Heap) (Q : Kont R) : J50x20 mk0 C s3 n3 s5x0 n5x0 s5x1 n5x1 s5x2 n5x2 l6 i9 i10 s16 n16 i17 i18 h Q = (
  J50x21 mk0 C s3 n3 s5x0 n5x0 s5x1 n5x1 s5x2 n5x2 l6 i9 i10 s16 n16 i17 i18 h Q
  ) := join_eqn (blockQ 1 (seqQ (evalE mk0 C k50x11) (seqQ (evalE mk0 C k50x10) (roundQ mk0 C k50x5 460392 512 Q)))) (rep 3 (.g [] true (.sl s3 n3) :: (.any :: (.box [(.sl s5x0 n5x0), (.sl s5x1 n5x1), (.sl s5x2 n5x2)] :: (.box l6 :: (.any :: .any :: (.g [] true (.int .i64 i9) :: (.g [] true (.int .i64 i10) :: (rep 5 (.g [] true (.sl s16 n16) :: (.g [] true (.int .i64 i17) :: (.g [] true (.int .i64 i18) :: (rep 52 []))))))))))))) h (J50x20xaux mk0 C s3 n3 s5x0 n5x0 s5x1 n5x1 s5x2 n5x2 l6 i9 i10 s16 n16 i17 i18 h Q)
theorem X50x5xe0 (M : Mk) (C : Cal) (i9 : Int) (h : Heap) : Q50x5 M C (.exit 0) (S50xe0 i9 h) = (
  some ((.int .i64 i9), h)
  ) := by kernel_rfl
def k32x12 : AC := .exit 0
def k32x11 : AC := .mask 196729
def k32x25 : AC := .exit 2
def k32x24 : AC := .mask 15393162985721
def k32x28 : AC := .ops false [
    ⟨(some 47), .fieldAddr 0 (.tmp 3), none, []⟩,
    ⟨(some 48), .load (.cell .sl) (.tmp 47), none, []⟩,
    ⟨(some 49), .move (.tmp 9), none, []⟩,
    ⟨(some 50), .indexAddr 1 (.tmp 48) (.tmp 49), none, []⟩,
    ⟨(some 51), .load (.cell (.int .i64)) (.tmp 50), none, []⟩,
    ⟨(some 52), .bin .other .sub (.tmp 51) (.c (.int .i64 1)), none, []⟩,
    ⟨(some 53), .indexAddr 1 (.tmp 48) (.tmp 49), none, []⟩,
    ⟨none, .store 1 (.tmp 53) (.tmp 52), none, []⟩]
def k32x27 : AC := .mask 15393162985721
def k32x26 : AC := .ops false [
    ⟨(some 54), .bin .other .add (.tmp 43) (.c (.int .i64 1)), none, []⟩,
    ⟨(some 43), .move (.tmp 54), none, []⟩]
def k32x23 : AC := .seq (.seq (.block 3 (.seq (.ops false [
     ⟨(some 45), .indexAddr 1 (.tmp 41) (.tmp 43), none, []⟩,
     ⟨(some 46), .load (.cell (.int .i64)) (.tmp 45), none, []⟩,
     ⟨(some 9), .move (.tmp 46), none, []⟩]) k32x28)) k32x27) k32x26
def k32x22 : AC := .seq (.seq (.cond (.tmp 44)
   (.skip)
   (.seq (.mask 196857) k32x25)) k32x24) k32x23
def k32x21 : AC := .seq (.ops false [
    ⟨(some 44), .bin .other .lss (.tmp 43) (.tmp 42), none, []⟩]) k32x22
def k32x20 : AC := .mask 196857
def k32x19 : AC := .seq (.block 2 (.loop 15393162985721 196857 k32x21)) k32x20
def k32x18 : AC := .ops false [
    ⟨(some 55), .move (.tmp 6), none, []⟩,
    ⟨(some 56), .move (.tmp 7), none, []⟩,
    ⟨(some 57), .buildSl [(.int .i64 0)] 1 [(0, (.tmp 56))], none, []⟩,
    ⟨(some 58), .append [(.int .i64 0)] 1 8 (.tmp 55) (.tmp 57), none, []⟩,
    ⟨(some 6), .move (.tmp 58), none, []⟩]
def k32x17 : AC := .seq (.seq (.ops false [
    ⟨(some 37), .fieldAddr 1 (.tmp 3), none, []⟩,
    ⟨(some 38), .load (.cell .sl) (.tmp 37), none, []⟩,
    ⟨(some 39), .move (.tmp 7), none, []⟩,
    ⟨(some 40), .indexAddr 1 (.tmp 38) (.tmp 39), none, []⟩,
    ⟨(some 41), .load (.cell .sl) (.tmp 40), none, []⟩,
    ⟨(some 42), .lenSl (.tmp 41), none, []⟩,
    ⟨(some 43), .move (.c (.int .i64 0)), none, []⟩]) k32x19) k32x18
def k32x16 : AC := .seq (.ops false [
    ⟨(some 28), .load (.raw 20) (.tmp 5), none, []⟩,
    ⟨(some 29), .move (.tmp 0), none, []⟩,
    ⟨(some 30), .move (.tmp 7), none, []⟩,
    ⟨(some 31), .indexAddr 5 (.tmp 29) (.tmp 30), none, []⟩,
    ⟨(some 32), .load (.agg [(.int .i64), (.int .i64), (.int .i64), (.int .i64), (.int .i64)]) (.tmp 31), none, []⟩,
    ⟨(some 33), .call 30 [(.tmp 28), (.tmp 32), (.c (.int .i64 0))] [(.raw 20), (.cell (.int .i64)), (.cell (.int .i64))] .opq, none, []⟩,
    ⟨(some 27), .move (.tmp 33), none, []⟩,
    ⟨(some 34), .extract (.tmp 27) 0, none, []⟩,
    ⟨(some 35), .extract (.tmp 27) 1, none, []⟩,
    ⟨(some 36), .extract (.tmp 27) 2, none, []⟩,
    ⟨none, .store 20 (.tmp 5) (.tmp 34), none, []⟩]) k32x17
def k32x15 : AC := .seq (.ops false [
    ⟨(some 24), .move (.tmp 4), none, []⟩,
    ⟨(some 25), .move (.tmp 7), none, []⟩,
    ⟨(some 26), .indexAddr 1 (.tmp 24) (.tmp 25), none, []⟩,
    ⟨none, .store 1 (.tmp 26) (.c (.bool true)), none, []⟩]) k32x16
def k32x14 : AC := .mask 196729
def k32x13 : AC := .ops false [
    ⟨(some 59), .bin .other .add (.tmp 17) (.c (.int .i64 1)), none, []⟩,
    ⟨(some 17), .move (.tmp 59), none, []⟩]
def k32x10 : AC := .seq (.seq (.block 1 (.seq (.ops false [
     ⟨(some 19), .move (.tmp 0), none, []⟩,
     ⟨(some 20), .load (.agg [.sl, .sl, .sl]) (.tmp 3), none, []⟩,
     ⟨(some 21), .load (.raw 20) (.tmp 5), none, []⟩,
     ⟨(some 22), .move (.tmp 4), none, []⟩,
     ⟨(some 23), .call 50 [(.tmp 19), (.tmp 20), (.tmp 21), (.tmp 22)] [(.cell (.int .i64))] (.int .i64 0), none, []⟩,
     ⟨(some 7), .move (.tmp 23), none, []⟩]) k32x15)) k32x14) k32x13
def k32x9 : AC := .seq (.seq (.cond (.tmp 18)
   (.skip)
   (.seq (.mask 64) k32x12)) k32x11) k32x10
def k32x8 : AC := .seq (.ops false [
    ⟨(some 18), .bin .other .lss (.tmp 17) (.tmp 16), none, []⟩]) k32x9
def k32x7 : AC := .mask 64
def k32x6 : AC := .seq (.block 0 (.loop 196729 64 k32x8)) k32x7
def k32x30 : AC := .ret
def k32x29 : AC := .seq (.mask 4) k32x30
def k32x5 : AC := .seq (.ops false [
    ⟨(some 60), .move (.tmp 6), none, []⟩,
    ⟨(some 2), .move (.tmp 60), none, []⟩]) k32x29
def k32x4 : AC := .seq (.seq (.ops false [
    ⟨(some 15), .move (.tmp 0), none, []⟩,
    ⟨(some 16), .lenSl (.tmp 15), none, []⟩,
    ⟨(some 17), .move (.c (.int .i64 0)), none, []⟩]) k32x6) k32x5
def k32x3 : AC := .seq (.ops false [
    ⟨(some 6), .move (.c (.sl .nil 0)), none, []⟩]) k32x4
def k32x2 : AC := .seq (.ops false [
    ⟨(some 5), .allocL [(.int .i64 0), (.int .i64 0), (.int .i64 0), (.int .i64 0), (.int .i64 0), (.int .i64 0), (.int .i64 0), (.int .i64 0), (.int .i64 0), (.int .i64 0), (.int .i64 0), (.int .i64 0), (.int .i64 0), (.int .i64 0), (.int .i64 0), (.int .i64 0), (.int .i64 0), (.int .i64 0), (.int .i64 0), (.sl .nil 0)], none, []⟩]) k32x3
def k32x1 : AC := .seq (.ops false [
    ⟨(some 12), .move (.tmp 0), none, []⟩,
    ⟨(some 13), .lenSl (.tmp 12), none, []⟩,
    ⟨(some 14), .makeSl [(.bool false)] 1 (.tmp 13) (.tmp 13), none, []⟩,
    ⟨(some 4), .move (.tmp 14), none, []⟩]) k32x2
def k32x0 : AC := .seq (.ops false [
    ⟨(some 10), .move (.tmp 0), none, []⟩,
    ⟨(some 11), .call 49 [(.tmp 10)] [(.agg [.sl, .sl, .sl])] (.agg [(.sl .nil 0), (.sl .nil 0), (.sl .nil 0)]), none, []⟩,
    ⟨(some 3), .allocL [(.sl .nil 0), (.sl .nil 0), (.sl .nil 0)], none, []⟩,
    ⟨none, .store 3 (.tmp 3) (.tmp 11), none, []⟩]) k32x1
/-- provenance/sched.order -/
def c32 : AFn := ⟨61, [.tmp 2],
  .seq (.ops false [
    ⟨(some 2), .move (.c (.sl .nil 0)), none, []⟩]) k32x0⟩
def S32xe0 (s6 : SA) (n6 : Nat) (h : Heap) : St := ⟨(rep 6 (.g [] true (.sl s6 n6) :: (rep 54 []))), h⟩
def S32xe2 (s0 : SA) (n0 : Nat) (s3x0 : SA) (n3x0 : Nat) (s3x1 : SA) (n3x1 : Nat) (s3x2 : SA) (n3x2 : Nat) (s4 : SA) (n4 : Nat) (l5 : List AV) (s6 : SA) (n6 : Nat) (i7 : Int) (i16 : Int) (i17 : Int) (h : Heap) : St := ⟨(.g [] true (.sl s0 n0) :: (.any :: .any :: (.box [(.sl s3x0 n3x0), (.sl s3x1 n3x1), (.sl s3x2 n3x2)] :: (.g [] true (.sl s4 n4) :: (.box l5 :: (.g [] true (.sl s6 n6) :: (.g [] true (.int .i64 i7) :: (rep 8 (.g [] true (.int .i64 i16) :: (.g [] true (.int .i64 i17) :: (rep 43 []))))))))))), h⟩
noncomputable def Q32x8 (M : Mk) (C : Cal) : Kont (AV × Heap) := (blockQ 0 (seqQ (evalE M C k32x7) (seqQ (evalE M C k32x5) (endQ [.tmp 2]))))
noncomputable def L32x8 (s0 : SA) (n0 : Nat) (s3x0 : SA) (n3x0 : Nat) (s3x1 : SA) (n3x1 : Nat) (s3x2 : SA) (n3x2 : Nat) (s4 : SA) (n4 : Nat) (l5 : List AV) (s6 : SA) (n6 : Nat) (i16 : Int) (i17 : Int) (h : Heap) (Q : Kont R) : Option R := loopE (evalE M C k32x8) 196729 64 ⟨(.g [] true (.sl s0 n0) :: (.any :: .any :: (.box [(.sl s3x0 n3x0), (.sl s3x1 n3x1), (.sl s3x2 n3x2)] :: (.g [] true (.sl s4 n4) :: (.box l5 :: (.g [] true (.sl s6 n6) :: (rep 9 (.g [] true (.int .i64 i16) :: (.g [] true (.int .i64 i17) :: (rep 43 [])))))))))), h⟩ Q
noncomputable def Q32x21 (M : Mk) (C : Cal) (Q : Kont R) : Kont R := (blockQ 2 (seqQ (evalE M C k32x20) (seqQ (evalE M C k32x18) (blockQ 1 (seqQ (evalE M C k32x14) (seqQ (evalE M C k32x13) (roundQ M C k32x8 196729 64 Q)))))))
noncomputable def L32x21 (s0 : SA) (n0 : Nat) (s3x0 : SA) (n3x0 : Nat) (s3x1 : SA) (n3x1 : Nat) (s3x2 : SA) (n3x2 : Nat) (s4 : SA) (n4 : Nat) (l5 : List AV) (s6 : SA) (n6 : Nat) (i7 : Int) (i16 : Int) (i17 : Int) (s41 : SA) (n41 : Nat) (i42 : Int) (i43 : Int) (h : Heap) (Q : Kont R) : Option R := loopE (evalE M C k32x21) 15393162985721 196857 ⟨(.g [] true (.sl s0 n0) :: (.any :: .any :: (.box [(.sl s3x0 n3x0), (.sl s3x1 n3x1), (.sl s3x2 n3x2)] :: (.g [] true (.sl s4 n4) :: (.box l5 :: (.g [] true (.sl s6 n6) :: (.g [] true (.int .i64 i7) :: (rep 8 (.g [] true (.int .i64 i16) :: (.g [] true (.int .i64 i17) :: (rep 23 (.g [] true (.sl s41 n41) :: (.g [] true (.int .i64 i42) :: (.g [] true (.int .i64 i43) :: (rep 17 []))))))))))))))), h⟩ Q
theorem r32 (s0 : SA) (n0 : Nat) (h : Heap) : runE M C c32 [(.sl s0 n0)] h = (
  (C 49 [(.sl s0 n0)] h).bind fun r11 =>
  gA r11.1 true fun l11 =>
  chk (true = true → l11.length = 3) <|
  gL (l11[0]?) true fun s11x0 n11x0 =>
  gL (l11[1]?) true fun s11x1 n11x1 =>
  gL (l11[2]?) true fun s11x2 n11x2 =>
  chk ((0 : Int) ≤ ((n0 : Nat) : Int) ∧ (((n0 : Nat) : Int) : Int) ≤ ((n0 : Nat) : Int) ∧ ((n0 : Nat) : Int) * ((1 : Nat) : Int) ≤ 70368744177664) <|
  newK r11.2 (.cells (repl (Int.toNat ((n0 : Nat) : Int)) [(.bool false)]) (.grow 1) 0) fun h_2 =>
  letK ((Int.toNat ((n0 : Nat) : Int)) : Nat) fun n14 =>
  L32x8 M C s0 n0 s11x0 n11x0 s11x1 n11x1 s11x2 n11x2 (.pos ⟨List.length r11.2, 0, 0⟩) n14 [(.int .i64 0), (.int .i64 0), (.int .i64 0), (.int .i64 0), (.int .i64 0), (.int .i64 0), (.int .i64 0), (.int .i64 0), (.int .i64 0), (.int .i64 0), (.int .i64 0), (.int .i64 0), (.int .i64 0), (.int .i64 0), (.int .i64 0), (.int .i64 0), (.int .i64 0), (.int .i64 0), (.int .i64 0), (.sl .nil 0)] .nil 0 ((n0 : Nat) : Int) 0 h_2 (Q32x8 M C)
  ) := by kernel_rfl
theorem cf32 : cFn Try.prog 32 = some c32 := by kernel_rfl
theorem e32 (s0 : SA) (n0 : Nat) (h : Heap) : E 32 [(.sl s0 n0)] h = (
  (E 49 [(.sl s0 n0)] h).bind fun r11 =>
  gA r11.1 true fun l11 =>
  chk (true = true → l11.length = 3) <|
  gL (l11[0]?) true fun s11x0 n11x0 =>
  gL (l11[1]?) true fun s11x1 n11x1 =>
  gL (l11[2]?) true fun s11x2 n11x2 =>
  chk ((0 : Int) ≤ ((n0 : Nat) : Int) ∧ (((n0 : Nat) : Int) : Int) ≤ ((n0 : Nat) : Int) ∧ ((n0 : Nat) : Int) * ((1 : Nat) : Int) ≤ 70368744177664) <|
  newK r11.2 (.cells (repl (Int.toNat ((n0 : Nat) : Int)) [(.bool false)]) (.grow 1) 0) fun h_2 =>
  letK ((Int.toNat ((n0 : Nat) : Int)) : Nat) fun n14 =>
  L32x8 mk0 E s0 n0 s11x0 n11x0 s11x1 n11x1 s11x2 n11x2 (.pos ⟨List.length r11.2, 0, 0⟩) n14 [(.int .i64 0), (.int .i64 0), (.int .i64 0), (.int .i64 0), (.int .i64 0), (.int .i64 0), (.int .i64 0), (.int .i64 0), (.int .i64 0), (.int .i64 0), (.int .i64 0), (.int .i64 0), (.int .i64 0), (.int .i64 0), (.int .i64 0), (.int .i64 0), (.int .i64 0), (.int .i64 0), (.int .i64 0), (.sl .nil 0)] .nil 0 ((n0 : Nat) : Int) 0 h_2 (Q32x8 mk0 E)
  ) := (EV_eq (P := Try.prog) (T := T0) rfl cf32 [(.sl s0 n0)] h).trans (r32 mk0 E s0 n0 h)
theorem L32x8xaux (s0 : SA) (n0 : Nat) (s3x0 : SA) (n3x0 : Nat) (s3x1 : SA) (n3x1 : Nat) (s3x2 : SA) (n3x2 : Nat) (s4 : SA) (n4 : Nat) (l5 : List AV) (s6 : SA) (n6 : Nat) (i16 : Int) (i17 : Int) (h : Heap) (Q : Kont R) : (restrF 196729 ⟨(.g [] true (.sl s0 n0) :: (.any :: .any :: (.box [(.sl s3x0 n3x0), (.sl s3x1 n3x1), (.sl s3x2 n3x2)] :: (.g [] true (.sl s4 n4) :: (.box l5 :: (.g [] true (.sl s6 n6) :: (rep 9 (.g [] true (.int .i64 i16) :: (.g [] true (.int .i64 i17) :: (rep 43 [])))))))))), h⟩ fun σ => evalE M C k32x8 σ (roundQ M C k32x8 196729 64 Q)) = (
  letK ((decide ((i17 : Int) < i16)) : Bool) fun b18 =>
  if b18 = true then
    (
    chk (true = true → 0 + 20 ≤ List.length l5) <|
    (C 50 [(.sl s0 n0), (.agg [(.sl s3x0 n3x0), (.sl s3x1 n3x1), (.sl s3x2 n3x2)]), (.agg ((List.drop 0 l5).take 20)), (.sl s4 n4)] h).bind fun r23 =>
    gI .i64 (some r23.1) true fun i23 =>
    chk (true = true → (0 : Int) ≤ i23 ∧ (i23 : Int) < ((n4 : Nat) : Int)) <|
    atP (adP s4) true fun a26 =>
    (st1 r23.2 (Ad.add a26 (Int.toNat i23 * 1)) (.bool true)).bind fun h_2 =>
    chk (true = true → 0 + 20 ≤ List.length l5) <|
    chk (true = true → (0 : Int) ≤ i23 ∧ (i23 : Int) < ((n0 : Nat) : Int)) <|
    atP (adP s0) true fun a31 =>
    gCells (ldN h_2 (Ad.add a31 (Int.toNat i23 * 5)) 5) true fun l32 =>
    gI .i64 (l32[0]?) true fun i32x0 =>
    gI .i64 (l32[1]?) true fun i32x1 =>
    gI .i64 (l32[2]?) true fun i32x2 =>
    gI .i64 (l32[3]?) true fun i32x3 =>
    gI .i64 (l32[4]?) true fun i32x4 =>
    (C 30 [(.agg ((List.drop 0 l5).take 20)), (.agg [(.int .i64 i32x0), (.int .i64 i32x1), (.int .i64 i32x2), (.int .i64 i32x3), (.int .i64 i32x4)]), (.int .i64 0)] h_2).bind fun r33 =>
    gT 3 r33.1 true fun u33 =>
    gA (List.getD u33 0 .opq) true fun l33x0 =>
    chk (true = true → l33x0.length = 20) <|
    gI .i64 (some (List.getD u33 1 .opq)) true fun i33x1 =>
    gI .i64 (some (List.getD u33 2 .opq)) true fun i33x2 =>
    chk (List.length l33x0 = 20 ∧ flatL l33x0 = true ∧ 0 + 20 ≤ List.length l5) <|
    letK (splice 0 l33x0 l5) fun lx =>
    chk (true = true → (0 : Int) ≤ i23 ∧ (i23 : Int) < ((n3x1 : Nat) : Int)) <|
    atP (adP s3x1) true fun a40 =>
    gL (ld1 r33.2 (Ad.add a40 (Int.toNat i23 * 1))) true fun s41 n41 =>
    L32x21 M C s0 n0 s3x0 n3x0 s3x1 n3x1 s3x2 n3x2 s4 n4 lx s6 n6 i23 i16 i17 s41 n41 ((n41 : Nat) : Int) 0 r33.2 (Q32x21 M C Q)
    )
  else
    (
    Q (.exit 0) (S32xe0 s6 n6 h)
    )
  ) := by kernel_rfl
theorem L32x8xeq (s0 : SA) (n0 : Nat) (s3x0 : SA) (n3x0 : Nat) (s3x1 : SA) (n3x1 : Nat) (s3x2 : SA) (n3x2 : Nat) (s4 : SA) (n4 : Nat) (l5 : List AV) (s6 : SA) (n6 : Nat) (i16 : Int) (i17 : Int) (h : Heap) (Q : Kont R) : L32x8 mk0 C s0 n0 s3x0 n3x0 s3x1 n3x1 s3x2 n3x2 s4 n4 l5 s6 n6 i16 i17 h Q = (
  letK ((decide ((i17 : Int) < i16)) : Bool) fun b18 =>
  if b18 = true then
    (
    chk (true = true → 0 + 20 ≤ List.length l5) <|
    (C 50 [(.sl s0 n0), (.agg [(.sl s3x0 n3x0), (.sl s3x1 n3x1), (.sl s3x2 n3x2)]), (.agg ((List.drop 0 l5).take 20)), (.sl s4 n4)] h).bind fun r23 =>
    gI .i64 (some r23.1) true fun i23 =>
    chk (true = true → (0 : Int) ≤ i23 ∧ (i23 : Int) < ((n4 : Nat) : Int)) <|
    atP (adP s4) true fun a26 =>
    (st1 r23.2 (Ad.add a26 (Int.toNat i23 * 1)) (.bool true)).bind fun h_2 =>
    chk (true = true → 0 + 20 ≤ List.length l5) <|
    chk (true = true → (0 : Int) ≤ i23 ∧ (i23 : Int) < ((n0 : Nat) : Int)) <|
    atP (adP s0) true fun a31 =>
    gCells (ldN h_2 (Ad.add a31 (Int.toNat i23 * 5)) 5) true fun l32 =>
    gI .i64 (l32[0]?) true fun i32x0 =>
    gI .i64 (l32[1]?) true fun i32x1 =>
    gI .i64 (l32[2]?) true fun i32x2 =>
    gI .i64 (l32[3]?) true fun i32x3 =>
    gI .i64 (l32[4]?) true fun i32x4 =>
    (C 30 [(.agg ((List.drop 0 l5).take 20)), (.agg [(.int .i64 i32x0), (.int .i64 i32x1), (.int .i64 i32x2), (.int .i64 i32x3), (.int .i64 i32x4)]), (.int .i64 0)] h_2).bind fun r33 =>
    gT 3 r33.1 true fun u33 =>
    gA (List.getD u33 0 .opq) true fun l33x0 =>
    chk (true = true → l33x0.length = 20) <|
    gI .i64 (some (List.getD u33 1 .opq)) true fun i33x1 =>
    gI .i64 (some (List.getD u33 2 .opq)) true fun i33x2 =>
    chk (List.length l33x0 = 20 ∧ flatL l33x0 = true ∧ 0 + 20 ≤ List.length l5) <|
    letK (splice 0 l33x0 l5) fun lx =>
    chk (true = true → (0 : Int) ≤ i23 ∧ (i23 : Int) < ((n3x1 : Nat) : Int)) <|
    atP (adP s3x1) true fun a40 =>
    gL (ld1 r33.2 (Ad.add a40 (Int.toNat i23 * 1))) true fun s41 n41 =>
    L32x21 mk0 C s0 n0 s3x0 n3x0 s3x1 n3x1 s3x2 n3x2 s4 n4 lx s6 n6 i23 i16 i17 s41 n41 ((n41 : Nat) : Int) 0 r33.2 (Q32x21 mk0 C Q)
    )
  else
    (
    Q (.exit 0) (S32xe0 s6 n6 h)
    )
  ) := loop_eqn C k32x8 196729 64 (.g [] true (.sl s0 n0) :: (.any :: .any :: (.box [(.sl s3x0 n3x0), (.sl s3x1 n3x1), (.sl s3x2 n3x2)] :: (.g [] true (.sl s4 n4) :: (.box l5 :: (.g [] true (.sl s6 n6) :: (rep 9 (.g [] true (.int .i64 i16) :: (.g [] true (.int .i64 i17) :: (rep 43 [])))))))))) h Q (by kernel_rfl) (L32x8xaux mk0 C s0 n0 s3x0 n3x0 s3x1 n3x1 s3x2 n3x2 s4 n4 l5 s6 n6 i16 i17 h Q)
theorem L32x21xaux (s0 : SA) (n0 : Nat) (s3x0 : SA) (n3x0 : Nat) (s3x1 : SA) (n3x1 : Nat) (s3x2 : SA) (n3x2 : Nat) (s4 : SA) (n4 : Nat) (l5 : List AV) (s6 : SA) (n6 : Nat) (i7 : Int) (i16 : Int) (i17 : Int) (s41 : SA) (n41 : Nat) (i42 : Int) (i43 : Int) (h : Heap) (Q : Kont R) : (restrF 15393162985721 ⟨(.g [] true (.sl s0 n0) :: (.any :: .any :: (.box [(.sl s3x0 n3x0), (.sl s3x1 n3x1), (.sl s3x2 n3x2)] :: (.g [] true (.sl s4 n4) :: (.box l5 :: (.g [] true (.sl s6 n6) :: (.g [] true (.int .i64 i7) :: (rep 8 (.g [] true (.int .i64 i16) :: (.g [] true (.int .i64 i17) :: (rep 23 (.g [] true (.sl s41 n41) :: (.g [] true (.int .i64 i42) :: (.g [] true (.int .i64 i43) :: (rep 17 []))))))))))))))), h⟩ fun σ => evalE M C k32x21 σ (roundQ M C k32x21 15393162985721 196857 Q)) = (
  letK ((decide ((i43 : Int) < i42)) : Bool) fun b44 =>
  if b44 = true then
    (
    chk (true = true → (0 : Int) ≤ i43 ∧ (i43 : Int) < ((n41 : Nat) : Int)) <|
    atP (adP s41) true fun a45 =>
    gI .i64 (ld1 h (Ad.add a45 (Int.toNat i43 * 1))) true fun i46 =>
    chk (true = true → (0 : Int) ≤ i46 ∧ (i46 : Int) < ((n3x0 : Nat) : Int)) <|
    atP (adP s3x0) true fun a50 =>
    gI .i64 (ld1 h (Ad.add a50 (Int.toNat i46 * 1))) true fun i51 =>
    letK ((IntKind.wrap .i64 (i51 - 1)) : Int) fun i52 =>
    chk (true = true → (0 : Int) ≤ i46 ∧ (i46 : Int) < ((n3x0 : Nat) : Int)) <|
    atP (adP s3x0) true fun a53 =>
    (st1 h (Ad.add a53 (Int.toNat i46 * 1)) (.int .i64 i52)).bind fun h_2 =>
    letK ((IntKind.wrap .i64 (i43 + 1)) : Int) fun i54 =>
    L32x21 M C s0 n0 s3x0 n3x0 s3x1 n3x1 s3x2 n3x2 s4 n4 l5 s6 n6 i7 i16 i17 s41 n41 i42 i54 h_2 Q
    )
  else
    (
    Q (.exit 2) (S32xe2 s0 n0 s3x0 n3x0 s3x1 n3x1 s3x2 n3x2 s4 n4 l5 s6 n6 i7 i16 i17 h)
    )
  ) := by kernel_rfl
theorem L32x21xeq (s0 : SA) (n0 : Nat) (s3x0 : SA) (n3x0 : Nat) (s3x1 : SA) (n3x1 : Nat) (s3x2 : SA) (n3x2 : Nat) (s4 : SA) (n4 : Nat) (l5 : List AV) (s6 : SA) (n6 : Nat) (i7 : Int) (i16 : Int) (i17 : Int) (s41 : SA) (n41 : Nat) (i42 : Int) (i43 : Int) (h : Heap) (Q : Kont R) : L32x21 mk0 C s0 n0 s3x0 n3x0 s3x1 n3x1 s3x2 n3x2 s4 n4 l5 s6 n6 i7 i16 i17 s41 n41 i42 i43 h Q = (
  letK ((decide ((i43 : Int) < i42)) : Bool) fun b44 =>
  if b44 = true then
    (
    chk (true = true → (0 : Int) ≤ i43 ∧ (i43 : Int) < ((n41 : Nat) : Int)) <|
    atP (adP s41) true fun a45 =>
    gI .i64 (ld1 h (Ad.add a45 (Int.toNat i43 * 1))) true fun i46 =>
    chk (true = true → (0 : Int) ≤ i46 ∧ (i46 : Int) < ((n3x0 : Nat) : Int)) <|
    atP (adP s3x0) true fun a50 =>
    gI .i64 (ld1 h (Ad.add a50 (Int.toNat i46 * 1))) true fun i51 =>
    letK ((IntKind.wrap .i64 (i51 - 1)) : Int) fun i52 =>
    chk (true = true → (0 : Int) ≤ i46 ∧ (i46 : Int) < ((n3x0 : Nat) : Int)) <|
    atP (adP s3x0) true fun a53 =>
    (st1 h (Ad.add a53 (Int.toNat i46 * 1)) (.int .i64 i52)).bind fun h_2 =>
    letK ((IntKind.wrap .i64 (i43 + 1)) : Int) fun i54 =>
    L32x21 mk0 C s0 n0 s3x0 n3x0 s3x1 n3x1 s3x2 n3x2 s4 n4 l5 s6 n6 i7 i16 i17 s41 n41 i42 i54 h_2 Q
    )
  else
    (
    Q (.exit 2) (S32xe2 s0 n0 s3x0 n3x0 s3x1 n3x1 s3x2 n3x2 s4 n4 l5 s6 n6 i7 i16 i17 h)
    )
  ) := loop_eqn C k32x21 15393162985721 196857 (.g [] true (.sl s0 n0) :: (.any :: .any :: (.box [(.sl s3x0 n3x0), (.sl s3x1 n3x1), (.sl s3x2 n3x2)] :: (.g [] true (.sl s4 n4) :: (.box l5 :: (.g [] true (.sl s6 n6) :: (.g [] true (.int .i64 i7) :: (rep 8 (.g [] true (.int .i64 i16) :: (.g [] true (.int .i64 i17) :: (rep 23 (.g [] true (.sl s41 n41) :: (.g [] true (.int .i64 i42) :: (.g [] true (.int .i64 i43) :: (rep 17 []))))))))))))))) h Q (by kernel_rfl) (L32x21xaux mk0 C s0 n0 s3x0 n3x0 s3x1 n3x1 s3x2 n3x2 s4 n4 l5 s6 n6 i7 i16 i17 s41 n41 i42 i43 h Q)
theorem X32x8xe0 (M : Mk) (C : Cal) (s6 : SA) (n6 : Nat) (h : Heap) : Q32x8 M C (.exit 0) (S32xe0 s6 n6 h) = (
  some ((.sl s6 n6), h)
  ) := by kernel_rfl
theorem X32x21xe2 (M : Mk) (C : Cal) (s0 : SA) (n0 : Nat) (s3x0 : SA) (n3x0 : Nat) (s3x1 : SA) (n3x1 : Nat) (s3x2 : SA) (n3x2 : Nat) (s4 : SA) (n4 : Nat) (l5 : List AV) (s6 : SA) (n6 : Nat) (i7 : Int) (i16 : Int) (i17 : Int) (h : Heap) (Q : Kont R) : Q32x21 M C Q (.exit 2) (S32xe2 s0 n0 s3x0 n3x0 s3x1 n3x1 s3x2 n3x2 s4 n4 l5 s6 n6 i7 i16 i17 h) = (
  newK h (.cells [(.int .i64 i7)] (.grow 1) 0) fun h_2 =>
  (ldSl h_2 (.pos ⟨List.length h, 0, 0⟩) (1 * 1)).bind fun y58 =>
  (apnd h_2 (.sl s6 n6) 1 8 y58 1).bind fun r58 =>
  gL (some r58.1) true fun s58 n58 =>
  letK ((IntKind.wrap .i64 (i17 + 1)) : Int) fun i59 =>
  L32x8 M C s0 n0 s3x0 n3x0 s3x1 n3x1 s3x2 n3x2 s4 n4 l5 s58 n58 i16 i59 r58.2 Q
  ) := by kernel_rfl
def k22x6 : AC := .ret
def k22x5 : AC := .seq (.mask 12) k22x6
def k22x4 : AC := .mask 17
def k22x3 : AC := .seq (.cond (.tmp 19)
   (.seq (.ops false [
      ⟨(some 20), .move (.tmp 5), none, []⟩,
      ⟨(some 2), .move (.c (.sl .nil 0)), none, []⟩,
      ⟨(some 3), .move (.tmp 20), none, []⟩]) k22x5)
   (.skip)) k22x4
def k22x11 : AC := .ret
def k22x10 : AC := .seq (.mask 12) k22x11
def k22x9 : AC := .mask 17
def k22x8 : AC := .seq (.cond (.tmp 23)
   (.seq (.ops false [
      ⟨(some 2), .move (.c (.sl .nil 0)), none, []⟩,
      ⟨(some 3), .move (.c (.int .i64 2)), none, []⟩]) k22x10)
   (.skip)) k22x9
def k22x21 : AC := .exit 0
def k22x20 : AC := .mask 469762257
def k22x24 : AC := .ops false [
    ⟨(some 32), .move (.tmp 7), none, []⟩,
    ⟨(some 33), .move (.tmp 0), none, []⟩,
    ⟨(some 34), .move (.tmp 9), none, []⟩,
    ⟨(some 35), .indexAddr 5 (.tmp 33) (.tmp 34), none, []⟩,
    ⟨(some 36), .load (.agg [(.int .i64), (.int .i64), (.int .i64), (.int .i64), (.int .i64)]) (.tmp 35), none, []⟩,
    ⟨(some 37), .buildSl [(.int .i64 0), (.int .i64 0), (.int .i64 0), (.int .i64 0), (.int .i64 0)] 5 [(0, (.tmp 36))], none, []⟩,
    ⟨(some 38), .append [(.int .i64 0), (.int .i64 0), (.int .i64 0), (.int .i64 0), (.int .i64 0)] 5 40 (.tmp 32) (.tmp 37), none, []⟩,
    ⟨(some 7), .move (.tmp 38), none, []⟩]
def k22x23 : AC := .mask 469762257
def k22x22 : AC := .ops false [
    ⟨(some 39), .bin .other .add (.tmp 28) (.c (.int .i64 1)), none, []⟩,
    ⟨(some 28), .move (.tmp 39), none, []⟩]
def k22x19 : AC := .seq (.seq (.block 1 (.seq (.ops false [
     ⟨(some 30), .indexAddr 1 (.tmp 26) (.tmp 28), none, []⟩,
     ⟨(some 31), .load (.cell (.int .i64)) (.tmp 30), none, []⟩,
     ⟨(some 9), .move (.tmp 31), none, []⟩]) k22x24)) k22x23) k22x22
def k22x18 : AC := .seq (.seq (.cond (.tmp 29)
   (.skip)
   (.seq (.mask 208) k22x21)) k22x20) k22x19
def k22x17 : AC := .seq (.ops false [
    ⟨(some 29), .bin .other .lss (.tmp 28) (.tmp 27), none, []⟩]) k22x18
def k22x16 : AC := .mask 208
def k22x15 : AC := .seq (.block 0 (.loop 469762257 208 k22x17)) k22x16
def k22x30 : AC := .ret
def k22x29 : AC := .seq (.mask 12) k22x30
def k22x28 : AC := .mask 64
def k22x27 : AC := .seq (.cond (.tmp 47)
   (.seq (.ops false [
      ⟨(some 48), .move (.tmp 6), none, []⟩,
      ⟨(some 2), .move (.tmp 48), none, []⟩,
      ⟨(some 3), .move (.c (.int .i64 0)), none, []⟩]) k22x29)
   (.skip)) k22x28
def k22x26 : AC := .seq (.ops false [
    ⟨(some 45), .move (.tmp 10), none, []⟩,
    ⟨(some 46), .move (.tmp 4), none, []⟩,
    ⟨(some 47), .bin .other .lss (.tmp 45) (.tmp 46), none, []⟩]) k22x27
def k22x38 : AC := .exit 2
def k22x37 : AC := .mask 3377699720527936
def k22x41 : AC := .ops false [
    ⟨(some 54), .move (.tmp 6), none, []⟩,
    ⟨(some 55), .move (.tmp 12), none, []⟩,
    ⟨(some 56), .move (.tmp 12), none, []⟩,
    ⟨(some 57), .indexAddr 1 (.tmp 54) (.tmp 55), none, []⟩,
    ⟨none, .store 1 (.tmp 57) (.tmp 56), none, []⟩]
def k22x40 : AC := .mask 3377699720527936
def k22x39 : AC := .ops false [
    ⟨(some 58), .bin .other .add (.tmp 51) (.c (.int .i64 1)), none, []⟩,
    ⟨(some 51), .move (.tmp 58), none, []⟩]
def k22x36 : AC := .seq (.seq (.block 3 (.seq (.ops false [
     ⟨(some 53), .move (.tmp 51), none, []⟩,
     ⟨(some 12), .move (.tmp 53), none, []⟩]) k22x41)) k22x40) k22x39
def k22x35 : AC := .seq (.seq (.cond (.tmp 52)
   (.skip)
   (.seq (.mask 64) k22x38)) k22x37) k22x36
def k22x34 : AC := .seq (.ops false [
    ⟨(some 52), .bin .other .lss (.tmp 51) (.tmp 50), none, []⟩]) k22x35
def k22x33 : AC := .mask 64
def k22x32 : AC := .seq (.block 2 (.loop 3377699720527936 64 k22x34)) k22x33
def k22x43 : AC := .ret
def k22x42 : AC := .seq (.mask 12) k22x43
def k22x31 : AC := .seq (.ops false [
    ⟨(some 59), .move (.tmp 6), none, []⟩,
    ⟨(some 2), .move (.tmp 59), none, []⟩,
    ⟨(some 3), .move (.c (.int .i64 0)), none, []⟩]) k22x42
def k22x25 : AC := .seq (.seq (.ops false [
    ⟨(some 49), .move (.tmp 6), none, []⟩,
    ⟨(some 50), .lenSl (.tmp 49), none, []⟩,
    ⟨(some 51), .move (.c (.int .i64 0)), none, []⟩]) k22x32) k22x31
def k22x14 : AC := .seq (.seq (.ops false [
    ⟨(some 41), .move (.tmp 7), none, []⟩,
    ⟨(some 42), .call 13 [(.tmp 41)] [(.cell (.int .i64)), (.cell (.int .i64))] .opq, none, []⟩,
    ⟨(some 40), .move (.tmp 42), none, []⟩,
    ⟨(some 43), .extract (.tmp 40) 0, none, []⟩,
    ⟨(some 44), .extract (.tmp 40) 1, none, []⟩,
    ⟨(some 10), .move (.tmp 43), none, []⟩,
    ⟨(some 11), .move (.tmp 44), none, []⟩]) k22x26) k22x25
def k22x13 : AC := .seq (.seq (.ops false [
    ⟨(some 26), .move (.tmp 6), none, []⟩,
    ⟨(some 27), .lenSl (.tmp 26), none, []⟩,
    ⟨(some 28), .move (.c (.int .i64 0)), none, []⟩]) k22x15) k22x14
def k22x12 : AC := .seq (.ops false [
    ⟨(some 7), .move (.c (.sl .nil 0)), none, []⟩]) k22x13
def k22x7 : AC := .seq (.ops false [
    ⟨(some 24), .move (.tmp 0), none, []⟩,
    ⟨(some 25), .call 32 [(.tmp 24)] [(.cell .sl)] (.sl .nil 0), none, []⟩,
    ⟨(some 6), .move (.tmp 25), none, []⟩]) k22x12
def k22x2 : AC := .seq (.seq (.ops false [
    ⟨(some 21), .move (.tmp 0), none, []⟩,
    ⟨(some 22), .lenSl (.tmp 21), none, []⟩,
    ⟨(some 23), .bin .other .gtr (.tmp 22) (.c (.int .i64 256)), none, []⟩]) k22x8) k22x7
def k22x1 : AC := .seq (.seq (.ops false [
    ⟨(some 18), .move (.tmp 5), none, []⟩,
    ⟨(some 19), .bin .other .neq (.tmp 18) (.c (.int .i64 0)), none, []⟩]) k22x3) k22x2
def k22x0 : AC := .seq (.ops false [
    ⟨(some 14), .move (.tmp 0), none, []⟩,
    ⟨(some 15), .call 13 [(.tmp 14)] [(.cell (.int .i64)), (.cell (.int .i64))] .opq, none, []⟩,
    ⟨(some 13), .move (.tmp 15), none, []⟩,
    ⟨(some 16), .extract (.tmp 13) 0, none, []⟩,
    ⟨(some 17), .extract (.tmp 13) 1, none, []⟩,
    ⟨(some 4), .move (.tmp 16), none, []⟩,
    ⟨(some 5), .move (.tmp 17), none, []⟩]) k22x1
/-- provenance/sched.Order -/
def c22 : AFn := ⟨60, [.tmp 2, .tmp 3],
  .seq (.ops false [
    ⟨(some 2), .move (.c (.sl .nil 0)), none, []⟩,
    ⟨(some 3), .move (.c (.int .i64 0)), none, []⟩]) k22x0⟩
def S22xe0 (i4 : Int) (s6 : SA) (n6 : Nat) (s7 : SA) (n7 : Nat) (h : Heap) : St := ⟨(rep 4 (.g [] true (.int .i64 i4) :: (.any :: (.g [] true (.sl s6 n6) :: (.g [] true (.sl s7 n7) :: (rep 52 [])))))), h⟩
def S22xe2 (s6 : SA) (n6 : Nat) (h : Heap) : St := ⟨(rep 6 (.g [] true (.sl s6 n6) :: (rep 53 []))), h⟩
noncomputable def Q22x17 (M : Mk) (C : Cal) : Kont (AV × Heap) := (blockQ 0 (seqQ (evalE M C k22x16) (seqQ (evalE M C k22x14) (endQ [.tmp 2, .tmp 3]))))
noncomputable def L22x17 (s0 : SA) (n0 : Nat) (i4 : Int) (s6 : SA) (n6 : Nat) (s7 : SA) (n7 : Nat) (s26 : SA) (n26 : Nat) (i27 : Int) (i28 : Int) (h : Heap) (Q : Kont R) : Option R := loopE (evalE M C k22x17) 469762257 208 ⟨(.g [] true (.sl s0 n0) :: (rep 3 (.g [] true (.int .i64 i4) :: (.any :: (.g [] true (.sl s6 n6) :: (.g [] true (.sl s7 n7) :: (rep 18 (.g [] true (.sl s26 n26) :: (.g [] true (.int .i64 i27) :: (.g [] true (.int .i64 i28) :: (rep 31 []))))))))))), h⟩ Q
noncomputable def Q22x34 (M : Mk) (C : Cal) : Kont (AV × Heap) := (blockQ 2 (seqQ (evalE M C k22x33) (seqQ (evalE M C k22x31) (endQ [.tmp 2, .tmp 3]))))
noncomputable def L22x34 (s6 : SA) (n6 : Nat) (i50 : Int) (i51 : Int) (h : Heap) (Q : Kont R) : Option R := loopE (evalE M C k22x34) 3377699720527936 64 ⟨(rep 6 (.g [] true (.sl s6 n6) :: (rep 43 (.g [] true (.int .i64 i50) :: (.g [] true (.int .i64 i51) :: (rep 8 [])))))), h⟩ Q
theorem r22 (s0 : SA) (n0 : Nat) (h : Heap) : runE M C c22 [(.sl s0 n0)] h = (
  (C 13 [(.sl s0 n0)] h).bind fun r15 =>
  gT 2 r15.1 true fun u15 =>
  gI .i64 (some (List.getD u15 0 .opq)) true fun i15x0 =>
  gI .i64 (some (List.getD u15 1 .opq)) true fun i15x1 =>
  letK ((!decide ((i15x1 : Int) = 0)) : Bool) fun b19 =>
  if b19 = true then
    (
    some (.tup [(.sl .nil 0), (.int .i64 i15x1)], r15.2)
    )
  else
    (
    letK ((decide ((256 : Int) < ((n0 : Nat) : Int))) : Bool) fun b23 =>
    if b23 = true then
      (
      some (.tup [(.sl .nil 0), (.int .i64 2)], r15.2)
      )
    else
      (
      (C 32 [(.sl s0 n0)] r15.2).bind fun r25 =>
      gL (some r25.1) true fun s25 n25 =>
      L22x17 M C s0 n0 i15x0 s25 n25 .nil 0 s25 n25 ((n25 : Nat) : Int) 0 r25.2 (Q22x17 M C)
      )
    )
  ) := by kernel_rfl
theorem cf22 : cFn Try.prog 22 = some c22 := by kernel_rfl
theorem e22 (s0 : SA) (n0 : Nat) (h : Heap) : E 22 [(.sl s0 n0)] h = (
  (E 13 [(.sl s0 n0)] h).bind fun r15 =>
  gT 2 r15.1 true fun u15 =>
  gI .i64 (some (List.getD u15 0 .opq)) true fun i15x0 =>
  gI .i64 (some (List.getD u15 1 .opq)) true fun i15x1 =>
  letK ((!decide ((i15x1 : Int) = 0)) : Bool) fun b19 =>
  if b19 = true then
    (
    some (.tup [(.sl .nil 0), (.int .i64 i15x1)], r15.2)
    )
  else
    (
    letK ((decide ((256 : Int) < ((n0 : Nat) : Int))) : Bool) fun b23 =>
    if b23 = true then
      (
      some (.tup [(.sl .nil 0), (.int .i64 2)], r15.2)
      )
    else
      (
      (E 32 [(.sl s0 n0)] r15.2).bind fun r25 =>
      gL (some r25.1) true fun s25 n25 =>
      L22x17 mk0 E s0 n0 i15x0 s25 n25 .nil 0 s25 n25 ((n25 : Nat) : Int) 0 r25.2 (Q22x17 mk0 E)
      )
    )
  ) := (EV_eq (P := Try.prog) (T := T0) rfl cf22 [(.sl s0 n0)] h).trans (r22 mk0 E s0 n0 h)
theorem L22x17xaux (s0 : SA) (n0 : Nat) (i4 : Int) (s6 : SA) (n6 : Nat) (s7 : SA) (n7 : Nat) (s26 : SA) (n26 : Nat) (i27 : Int) (i28 : Int) (h : Heap) (Q : Kont R) : (restrF 469762257 ⟨(.g [] true (.sl s0 n0) :: (rep 3 (.g [] true (.int .i64 i4) :: (.any :: (.g [] true (.sl s6 n6) :: (.g [] true (.sl s7 n7) :: (rep 18 (.g [] true (.sl s26 n26) :: (.g [] true (.int .i64 i27) :: (.g [] true (.int .i64 i28) :: (rep 31 []))))))))))), h⟩ fun σ => evalE M C k22x17 σ (roundQ M C k22x17 469762257 208 Q)) = (
  letK ((decide ((i28 : Int) < i27)) : Bool) fun b29 =>
  if b29 = true then
    (
    chk (true = true → (0 : Int) ≤ i28 ∧ (i28 : Int) < ((n26 : Nat) : Int)) <|
    atP (adP s26) true fun a30 =>
    gI .i64 (ld1 h (Ad.add a30 (Int.toNat i28 * 1))) true fun i31 =>
    chk (true = true → (0 : Int) ≤ i31 ∧ (i31 : Int) < ((n0 : Nat) : Int)) <|
    atP (adP s0) true fun a35 =>
    gCells (ldN h (Ad.add a35 (Int.toNat i31 * 5)) 5) true fun l36 =>
    gI .i64 (l36[0]?) true fun i36x0 =>
    gI .i64 (l36[1]?) true fun i36x1 =>
    gI .i64 (l36[2]?) true fun i36x2 =>
    gI .i64 (l36[3]?) true fun i36x3 =>
    gI .i64 (l36[4]?) true fun i36x4 =>
    newK h (.cells [(.int .i64 i36x0), (.int .i64 i36x1), (.int .i64 i36x2), (.int .i64 i36x3), (.int .i64 i36x4)] (.grow 5) 0) fun h_2 =>
    (ldSl h_2 (.pos ⟨List.length h, 0, 0⟩) (1 * 5)).bind fun y38 =>
    (apnd h_2 (.sl s7 n7) 5 40 y38 1).bind fun r38 =>
    gL (some r38.1) true fun s38 n38 =>
    letK ((IntKind.wrap .i64 (i28 + 1)) : Int) fun i39 =>
    L22x17 M C s0 n0 i4 s6 n6 s38 n38 s26 n26 i27 i39 r38.2 Q
    )
  else
    (
    Q (.exit 0) (S22xe0 i4 s6 n6 s7 n7 h)
    )
  ) := by kernel_rfl
theorem L22x17xeq (s0 : SA) (n0 : Nat) (i4 : Int) (s6 : SA) (n6 : Nat) (s7 : SA) (n7 : Nat) (s26 : SA) (n26 : Nat) (i27 : Int) (i28 : Int) (h : Heap) (Q : Kont R) : L22x17 mk0 C s0 n0 i4 s6 n6 s7 n7 s26 n26 i27 i28 h Q = (
  letK ((decide ((i28 : Int) < i27)) : Bool) fun b29 =>
  if b29 = true then
    (
    chk (true = true → (0 : Int) ≤ i28 ∧ (i28 : Int) < ((n26 : Nat) : Int)) <|
    atP (adP s26) true fun a30 =>
    gI .i64 (ld1 h (Ad.add a30 (Int.toNat i28 * 1))) true fun i31 =>
    chk (true = true → (0 : Int) ≤ i31 ∧ (i31 : Int) < ((n0 : Nat) : Int)) <|
    atP (adP s0) true fun a35 =>
    gCells (ldN h (Ad.add a35 (Int.toNat i31 * 5)) 5) true fun l36 =>
    gI .i64 (l36[0]?) true fun i36x0 =>
    gI .i64 (l36[1]?) true fun i36x1 =>
    gI .i64 (l36[2]?) true fun i36x2 =>
    gI .i64 (l36[3]?) true fun i36x3 =>
    gI .i64 (l36[4]?) true fun i36x4 =>
    newK h (.cells [(.int .i64 i36x0), (.int .i64 i36x1), (.int .i64 i36x2), (.int .i64 i36x3), (.int .i64 i36x4)] (.grow 5) 0) fun h_2 =>
    (ldSl h_2 (.pos ⟨List.length h, 0, 0⟩) (1 * 5)).bind fun y38 =>
    (apnd h_2 (.sl s7 n7) 5 40 y38 1).bind fun r38 =>
    gL (some r38.1) true fun s38 n38 =>
    letK ((IntKind.wrap .i64 (i28 + 1)) : Int) fun i39 =>
    L22x17 mk0 C s0 n0 i4 s6 n6 s38 n38 s26 n26 i27 i39 r38.2 Q
    )
  else
    (
    Q (.exit 0) (S22xe0 i4 s6 n6 s7 n7 h)
    )
  ) := loop_eqn C k22x17 469762257 208 (.g [] true (.sl s0 n0) :: (rep 3 (.g [] true (.int .i64 i4) :: (.any :: (.g [] true (.sl s6 n6) :: (.g [] true (.sl s7 n7) :: (rep 18 (.g [] true (.sl s26 n26) :: (.g [] true (.int .i64 i27) :: (.g [] true (.int .i64 i28) :: (rep 31 []))))))))))) h Q (by kernel_rfl) (L22x17xaux mk0 C s0 n0 i4 s6 n6 s7 n7 s26 n26 i27 i28 h Q)
theorem X22x17xe0 (M : Mk) (C : Cal) (i4 : Int) (s6 : SA) (n6 : Nat) (s7 : SA) (n7 : Nat) (h : Heap) : Q22x17 M C (.exit 0) (S22xe0 i4 s6 n6 s7 n7 h) = (
  (C 13 [(.sl s7 n7)] h).bind fun r42 =>
  gT 2 r42.1 true fun u42 =>
  gI .i64 (some (List.getD u42 0 .opq)) true fun i42x0 =>
  gI .i64 (some (List.getD u42 1 .opq)) true fun i42x1 =>
  letK ((decide ((i42x0 : Int) < i4)) : Bool) fun b47 =>
  if b47 = true then
    (
    some (.tup [(.sl s6 n6), (.int .i64 0)], r42.2)
    )
  else
    (
    L22x34 M C s6 n6 ((n6 : Nat) : Int) 0 r42.2 (Q22x34 M C)
    )
  ) := by kernel_rfl
theorem L22x34xaux (s6 : SA) (n6 : Nat) (i50 : Int) (i51 : Int) (h : Heap) (Q : Kont R) : (restrF 3377699720527936 ⟨(rep 6 (.g [] true (.sl s6 n6) :: (rep 43 (.g [] true (.int .i64 i50) :: (.g [] true (.int .i64 i51) :: (rep 8 [])))))), h⟩ fun σ => evalE M C k22x34 σ (roundQ M C k22x34 3377699720527936 64 Q)) = (
  letK ((decide ((i51 : Int) < i50)) : Bool) fun b52 =>
  if b52 = true then
    (
    chk (true = true → (0 : Int) ≤ i51 ∧ (i51 : Int) < ((n6 : Nat) : Int)) <|
    atP (adP s6) true fun a57 =>
    (st1 h (Ad.add a57 (Int.toNat i51 * 1)) (.int .i64 i51)).bind fun h_2 =>
    letK ((IntKind.wrap .i64 (i51 + 1)) : Int) fun i58 =>
    L22x34 M C s6 n6 i50 i58 h_2 Q
    )
  else
    (
    Q (.exit 2) (S22xe2 s6 n6 h)
    )
  ) := by kernel_rfl
theorem L22x34xeq (s6 : SA) (n6 : Nat) (i50 : Int) (i51 : Int) (h : Heap) (Q : Kont R) : L22x34 mk0 C s6 n6 i50 i51 h Q = (
  letK ((decide ((i51 : Int) < i50)) : Bool) fun b52 =>
  if b52 = true then
    (
    chk (true = true → (0 : Int) ≤ i51 ∧ (i51 : Int) < ((n6 : Nat) : Int)) <|
    atP (adP s6) true fun a57 =>
    (st1 h (Ad.add a57 (Int.toNat i51 * 1)) (.int .i64 i51)).bind fun h_2 =>
    letK ((IntKind.wrap .i64 (i51 + 1)) : Int) fun i58 =>
    L22x34 mk0 C s6 n6 i50 i58 h_2 Q
    )
  else
    (
    Q (.exit 2) (S22xe2 s6 n6 h)
    )
  ) := loop_eqn C k22x34 3377699720527936 64 (rep 6 (.g [] true (.sl s6 n6) :: (rep 43 (.g [] true (.int .i64 i50) :: (.g [] true (.int .i64 i51) :: (rep 8 [])))))) h Q (by kernel_rfl) (L22x34xaux mk0 C s6 n6 i50 i51 h Q)
theorem X22x34xe2 (M : Mk) (C : Cal) (s6 : SA) (n6 : Nat) (h : Heap) : Q22x34 M C (.exit 2) (S22xe2 s6 n6 h) = (
  some (.tup [(.sl s6 n6), (.int .i64 0)], h)
  ) := by kernel_rfl
def k24x6 : AC := .ret
def k24x5 : AC := .seq (.mask 12) k24x6
def k24x4 : AC := .mask 17
def k24x3 : AC := .seq (.cond (.tmp 15)
   (.seq (.ops false [
      ⟨(some 16), .move (.tmp 5), none, []⟩,
      ⟨(some 2), .move (.c (.sl .nil 0)), none, []⟩,
      ⟨(some 3), .move (.tmp 16), none, []⟩]) k24x5)
   (.skip)) k24x4
def k24x15 : AC := .exit 0
def k24x14 : AC := .mask 917569
def k24x18 : AC := .ops false [
    ⟨(some 23), .move (.tmp 6), none, []⟩,
    ⟨(some 24), .move (.tmp 0), none, []⟩,
    ⟨(some 25), .move (.tmp 8), none, []⟩,
    ⟨(some 26), .indexAddr 5 (.tmp 24) (.tmp 25), none, []⟩,
    ⟨(some 27), .load (.agg [(.int .i64), (.int .i64), (.int .i64), (.int .i64), (.int .i64)]) (.tmp 26), none, []⟩,
    ⟨(some 28), .buildSl [(.int .i64 0), (.int .i64 0), (.int .i64 0), (.int .i64 0), (.int .i64 0)] 5 [(0, (.tmp 27))], none, []⟩,
    ⟨(some 29), .append [(.int .i64 0), (.int .i64 0), (.int .i64 0), (.int .i64 0), (.int .i64 0)] 5 40 (.tmp 23) (.tmp 28), none, []⟩,
    ⟨(some 6), .move (.tmp 29), none, []⟩]
def k24x17 : AC := .mask 917569
def k24x16 : AC := .ops false [
    ⟨(some 30), .bin .other .add (.tmp 19) (.c (.int .i64 1)), none, []⟩,
    ⟨(some 19), .move (.tmp 30), none, []⟩]
def k24x13 : AC := .seq (.seq (.block 1 (.seq (.ops false [
     ⟨(some 21), .indexAddr 1 (.tmp 17) (.tmp 19), none, []⟩,
     ⟨(some 22), .load (.cell (.int .i64)) (.tmp 21), none, []⟩,
     ⟨(some 8), .move (.tmp 22), none, []⟩]) k24x18)) k24x17) k24x16
def k24x12 : AC := .seq (.seq (.cond (.tmp 20)
   (.skip)
   (.seq (.mask 64) k24x15)) k24x14) k24x13
def k24x11 : AC := .seq (.ops false [
    ⟨(some 20), .bin .other .lss (.tmp 19) (.tmp 18), none, []⟩]) k24x12
def k24x10 : AC := .mask 64
def k24x9 : AC := .seq (.block 0 (.loop 917569 64 k24x11)) k24x10
def k24x20 : AC := .ret
def k24x19 : AC := .seq (.mask 12) k24x20
def k24x8 : AC := .seq (.ops false [
    ⟨(some 31), .move (.tmp 6), none, []⟩,
    ⟨(some 2), .move (.tmp 31), none, []⟩,
    ⟨(some 3), .move (.c (.int .i64 0)), none, []⟩]) k24x19
def k24x7 : AC := .seq (.seq (.ops false [
    ⟨(some 17), .move (.tmp 4), none, []⟩,
    ⟨(some 18), .lenSl (.tmp 17), none, []⟩,
    ⟨(some 19), .move (.c (.int .i64 0)), none, []⟩]) k24x9) k24x8
def k24x2 : AC := .seq (.ops false [
    ⟨(some 6), .move (.c (.sl .nil 0)), none, []⟩]) k24x7
def k24x1 : AC := .seq (.seq (.ops false [
    ⟨(some 14), .move (.tmp 5), none, []⟩,
    ⟨(some 15), .bin .other .neq (.tmp 14) (.c (.int .i64 0)), none, []⟩]) k24x3) k24x2
def k24x0 : AC := .seq (.ops false [
    ⟨(some 10), .move (.tmp 0), none, []⟩,
    ⟨(some 11), .call 22 [(.tmp 10)] [(.cell .sl), (.cell (.int .i64))] .opq, none, []⟩,
    ⟨(some 9), .move (.tmp 11), none, []⟩,
    ⟨(some 12), .extract (.tmp 9) 0, none, []⟩,
    ⟨(some 13), .extract (.tmp 9) 1, none, []⟩,
    ⟨(some 4), .move (.tmp 12), none, []⟩,
    ⟨(some 5), .move (.tmp 13), none, []⟩]) k24x1
/-- provenance/sched.Schedule -/
def c24 : AFn := ⟨32, [.tmp 2, .tmp 3],
  .seq (.ops false [
    ⟨(some 2), .move (.c (.sl .nil 0)), none, []⟩,
    ⟨(some 3), .move (.c (.int .i64 0)), none, []⟩]) k24x0⟩
def S24xe0 (s6 : SA) (n6 : Nat) (h : Heap) : St := ⟨(rep 6 (.g [] true (.sl s6 n6) :: (rep 25 []))), h⟩
noncomputable def Q24x11 (M : Mk) (C : Cal) : Kont (AV × Heap) := (blockQ 0 (seqQ (evalE M C k24x10) (seqQ (evalE M C k24x8) (endQ [.tmp 2, .tmp 3]))))
noncomputable def L24x11 (s0 : SA) (n0 : Nat) (s6 : SA) (n6 : Nat) (s17 : SA) (n17 : Nat) (i18 : Int) (i19 : Int) (h : Heap) (Q : Kont R) : Option R := loopE (evalE M C k24x11) 917569 64 ⟨(.g [] true (.sl s0 n0) :: (rep 5 (.g [] true (.sl s6 n6) :: (rep 10 (.g [] true (.sl s17 n17) :: (.g [] true (.int .i64 i18) :: (.g [] true (.int .i64 i19) :: (rep 12 [])))))))), h⟩ Q
theorem r24 (s0 : SA) (n0 : Nat) (h : Heap) : runE M C c24 [(.sl s0 n0)] h = (
  (C 22 [(.sl s0 n0)] h).bind fun r11 =>
  gT 2 r11.1 true fun u11 =>
  gL (some (List.getD u11 0 .opq)) true fun s11x0 n11x0 =>
  gI .i64 (some (List.getD u11 1 .opq)) true fun i11x1 =>
  letK ((!decide ((i11x1 : Int) = 0)) : Bool) fun b15 =>
  if b15 = true then
    (
    some (.tup [(.sl .nil 0), (.int .i64 i11x1)], r11.2)
    )
  else
    (
    L24x11 M C s0 n0 .nil 0 s11x0 n11x0 ((n11x0 : Nat) : Int) 0 r11.2 (Q24x11 M C)
    )
  ) := by kernel_rfl
theorem cf24 : cFn Try.prog 24 = some c24 := by kernel_rfl
theorem e24 (s0 : SA) (n0 : Nat) (h : Heap) : E 24 [(.sl s0 n0)] h = (
  (E 22 [(.sl s0 n0)] h).bind fun r11 =>
  gT 2 r11.1 true fun u11 =>
  gL (some (List.getD u11 0 .opq)) true fun s11x0 n11x0 =>
  gI .i64 (some (List.getD u11 1 .opq)) true fun i11x1 =>
  letK ((!decide ((i11x1 : Int) = 0)) : Bool) fun b15 =>
  if b15 = true then
    (
    some (.tup [(.sl .nil 0), (.int .i64 i11x1)], r11.2)
    )
  else
    (
    L24x11 mk0 E s0 n0 .nil 0 s11x0 n11x0 ((n11x0 : Nat) : Int) 0 r11.2 (Q24x11 mk0 E)
    )
  ) := (EV_eq (P := Try.prog) (T := T0) rfl cf24 [(.sl s0 n0)] h).trans (r24 mk0 E s0 n0 h)
theorem L24x11xaux (s0 : SA) (n0 : Nat) (s6 : SA) (n6 : Nat) (s17 : SA) (n17 : Nat) (i18 : Int) (i19 : Int) (h : Heap) (Q : Kont R) : (restrF 917569 ⟨(.g [] true (.sl s0 n0) :: (rep 5 (.g [] true (.sl s6 n6) :: (rep 10 (.g [] true (.sl s17 n17) :: (.g [] true (.int .i64 i18) :: (.g [] true (.int .i64 i19) :: (rep 12 [])))))))), h⟩ fun σ => evalE M C k24x11 σ (roundQ M C k24x11 917569 64 Q)) = (
  letK ((decide ((i19 : Int) < i18)) : Bool) fun b20 =>
  if b20 = true then
    (
    chk (true = true → (0 : Int) ≤ i19 ∧ (i19 : Int) < ((n17 : Nat) : Int)) <|
    atP (adP s17) true fun a21 =>
    gI .i64 (ld1 h (Ad.add a21 (Int.toNat i19 * 1))) true fun i22 =>
    chk (true = true → (0 : Int) ≤ i22 ∧ (i22 : Int) < ((n0 : Nat) : Int)) <|
    atP (adP s0) true fun a26 =>
    gCells (ldN h (Ad.add a26 (Int.toNat i22 * 5)) 5) true fun l27 =>
    gI .i64 (l27[0]?) true fun i27x0 =>
    gI .i64 (l27[1]?) true fun i27x1 =>
    gI .i64 (l27[2]?) true fun i27x2 =>
    gI .i64 (l27[3]?) true fun i27x3 =>
    gI .i64 (l27[4]?) true fun i27x4 =>
    newK h (.cells [(.int .i64 i27x0), (.int .i64 i27x1), (.int .i64 i27x2), (.int .i64 i27x3), (.int .i64 i27x4)] (.grow 5) 0) fun h_2 =>
    (ldSl h_2 (.pos ⟨List.length h, 0, 0⟩) (1 * 5)).bind fun y29 =>
    (apnd h_2 (.sl s6 n6) 5 40 y29 1).bind fun r29 =>
    gL (some r29.1) true fun s29 n29 =>
    letK ((IntKind.wrap .i64 (i19 + 1)) : Int) fun i30 =>
    L24x11 M C s0 n0 s29 n29 s17 n17 i18 i30 r29.2 Q
    )
  else
    (
    Q (.exit 0) (S24xe0 s6 n6 h)
    )
  ) := by kernel_rfl
theorem L24x11xeq (s0 : SA) (n0 : Nat) (s6 : SA) (n6 : Nat) (s17 : SA) (n17 : Nat) (i18 : Int) (i19 : Int) (h : Heap) (Q : Kont R) : L24x11 mk0 C s0 n0 s6 n6 s17 n17 i18 i19 h Q = (
  letK ((decide ((i19 : Int) < i18)) : Bool) fun b20 =>
  if b20 = true then
    (
    chk (true = true → (0 : Int) ≤ i19 ∧ (i19 : Int) < ((n17 : Nat) : Int)) <|
    atP (adP s17) true fun a21 =>
    gI .i64 (ld1 h (Ad.add a21 (Int.toNat i19 * 1))) true fun i22 =>
    chk (true = true → (0 : Int) ≤ i22 ∧ (i22 : Int) < ((n0 : Nat) : Int)) <|
    atP (adP s0) true fun a26 =>
    gCells (ldN h (Ad.add a26 (Int.toNat i22 * 5)) 5) true fun l27 =>
    gI .i64 (l27[0]?) true fun i27x0 =>
    gI .i64 (l27[1]?) true fun i27x1 =>
    gI .i64 (l27[2]?) true fun i27x2 =>
    gI .i64 (l27[3]?) true fun i27x3 =>
    gI .i64 (l27[4]?) true fun i27x4 =>
    newK h (.cells [(.int .i64 i27x0), (.int .i64 i27x1), (.int .i64 i27x2), (.int .i64 i27x3), (.int .i64 i27x4)] (.grow 5) 0) fun h_2 =>
    (ldSl h_2 (.pos ⟨List.length h, 0, 0⟩) (1 * 5)).bind fun y29 =>
    (apnd h_2 (.sl s6 n6) 5 40 y29 1).bind fun r29 =>
    gL (some r29.1) true fun s29 n29 =>
    letK ((IntKind.wrap .i64 (i19 + 1)) : Int) fun i30 =>
    L24x11 mk0 C s0 n0 s29 n29 s17 n17 i18 i30 r29.2 Q
    )
  else
    (
    Q (.exit 0) (S24xe0 s6 n6 h)
    )
  ) := loop_eqn C k24x11 917569 64 (.g [] true (.sl s0 n0) :: (rep 5 (.g [] true (.sl s6 n6) :: (rep 10 (.g [] true (.sl s17 n17) :: (.g [] true (.int .i64 i18) :: (.g [] true (.int .i64 i19) :: (rep 12 [])))))))) h Q (by kernel_rfl) (L24x11xaux mk0 C s0 n0 s6 n6 s17 n17 i18 i19 h Q)
theorem X24x11xe0 (M : Mk) (C : Cal) (s6 : SA) (n6 : Nat) (h : Heap) : Q24x11 M C (.exit 0) (S24xe0 s6 n6 h) = (
  some (.tup [(.sl s6 n6), (.int .i64 0)], h)
  ) := by kernel_rfl
def k21x3 : AC := .ret
def k21x2 : AC := .seq (.mask 1) k21x3
def k21x1 : AC := .seq (.ops true [
    ⟨(some 9), .move (.tmp 2), none, []⟩,
    ⟨(some 10), .bin .other .eql (.tmp 9) (.c (.int .i64 0)), none, []⟩,
    ⟨(some 11), .move (.tmp 10), none, []⟩,
    ⟨(some 12), .move (.tmp 1), (some (11, true)), []⟩,
    ⟨(some 13), .lenSl (.tmp 12), (some (11, true)), []⟩,
    ⟨(some 14), .bin .other .eql (.tmp 13) (.c (.int .i64 1)), (some (11, true)), []⟩,
    ⟨(some 15), .pick (.tmp 11) (.tmp 14) (.c (.bool false)), none, []⟩,
    ⟨(some 16), .move (.tmp 15), none, []⟩,
    ⟨(some 17), .move (.tmp 1), (some (16, true)), []⟩,
    ⟨(some 18), .indexAddr 1 (.tmp 17) (.c (.int .i64 0)), (some (16, true)), []⟩,
    ⟨(some 19), .load (.cell (.int .i64)) (.tmp 18), (some (16, true)), []⟩,
    ⟨(some 20), .bin .other .eql (.tmp 19) (.c (.int .i64 0)), (some (16, true)), []⟩,
    ⟨(some 21), .pick (.tmp 16) (.tmp 20) (.c (.bool false)), none, []⟩,
    ⟨(some 22), .move (.tmp 21), none, []⟩,
    ⟨(some 23), .build [(.int .i64 0), (.int .i64 0), (.int .i64 0), (.int .i64 0), (.int .i64 0)] [(0, 1, (.c (.int .i64 11))), (1, 1, (.c (.int .i64 1)))], (some (22, true)), []⟩,
    ⟨(some 24), .build [(.int .i64 0), (.int .i64 0), (.int .i64 0), (.int .i64 0), (.int .i64 0)] [(0, 1, (.c (.int .i64 11))), (1, 1, (.c (.int .i64 1)))], (some (22, true)), []⟩,
    ⟨(some 25), .call 23 [(.tmp 23), (.tmp 24)] [(.cell .bool)] (.bool false), (some (22, true)), []⟩,
    ⟨(some 26), .pick (.tmp 22) (.tmp 25) (.c (.bool false)), none, []⟩,
    ⟨(some 0), .move (.tmp 26), none, []⟩]) k21x2
def k21x0 : AC := .seq (.ops false [
    ⟨(some 4), .build [(.int .i64 0), (.int .i64 0), (.int .i64 0), (.int .i64 0), (.int .i64 0)] [(0, 1, (.c (.int .i64 11))), (1, 1, (.c (.int .i64 1)))], none, []⟩,
    ⟨(some 5), .buildSl [(.int .i64 0), (.int .i64 0), (.int .i64 0), (.int .i64 0), (.int .i64 0)] 5 [(0, (.tmp 4))], none, []⟩,
    ⟨(some 6), .call 22 [(.tmp 5)] [(.cell .sl), (.cell (.int .i64))] .opq, none, []⟩,
    ⟨(some 3), .move (.tmp 6), none, []⟩,
    ⟨(some 7), .extract (.tmp 3) 0, none, []⟩,
    ⟨(some 8), .extract (.tmp 3) 1, none, []⟩,
    ⟨(some 1), .move (.tmp 7), none, []⟩,
    ⟨(some 2), .move (.tmp 8), none, []⟩]) k21x1
/-- provenance/provenancekeep4.schedFact -/
def c21 : AFn := ⟨27, [.tmp 0],
  .seq (.ops false [
    ⟨(some 0), .move (.c (.bool false)), none, []⟩]) k21x0⟩
theorem r21 (h : Heap) : runE M C c21 [] h = (
  newK h (.cells [(.int .i64 11), (.int .i64 1), (.int .i64 0), (.int .i64 0), (.int .i64 0)] (.grow 5) 0) fun h_2 =>
  (C 22 [(.sl (.pos ⟨List.length h, 0, 0⟩) 1)] h_2).bind fun r6 =>
  gT 2 r6.1 true fun u6 =>
  gL (some (List.getD u6 0 .opq)) true fun s6x0 n6x0 =>
  gI .i64 (some (List.getD u6 1 .opq)) true fun i6x1 =>
  letK ((decide ((i6x1 : Int) = 0)) : Bool) fun b10 =>
  letK ((decide ((((n6x0 : Nat) : Int) : Int) = 1)) : Bool) fun b14 =>
  letK ((if b10 = true then b14 else false) : Bool) fun b15 =>
  chk (b15 = true → (0 : Int) ≤ 0 ∧ (0 : Int) < ((n6x0 : Nat) : Int)) <|
  atP (adP s6x0) b15 fun a18 =>
  atP (some (Ad.add a18 (Int.toNat 0 * 1))) b15 fun a19 =>
  gI .i64 (ld1 r6.2 a19) b15 fun i19 =>
  letK ((decide ((i19 : Int) = 0)) : Bool) fun b20 =>
  letK ((if b15 = true then b20 else false) : Bool) fun b21 =>
  (callO b21 (C 23 [(.agg [(.int .i64 11), (.int .i64 1), (.int .i64 0), (.int .i64 0), (.int .i64 0)]), (.agg [(.int .i64 11), (.int .i64 1), (.int .i64 0), (.int .i64 0), (.int .i64 0)])] r6.2) (.bool false) r6.2).bind fun r25 =>
  gB (some r25.1) b21 fun b25 =>
  letK ((if b21 = true then b25 else false) : Bool) fun b26 =>
  some ((.bool b26), r25.2)
  ) := by kernel_rfl
theorem cf21 : cFn Try.prog 21 = some c21 := by kernel_rfl
theorem e21 (h : Heap) : E 21 [] h = (
  newK h (.cells [(.int .i64 11), (.int .i64 1), (.int .i64 0), (.int .i64 0), (.int .i64 0)] (.grow 5) 0) fun h_2 =>
  (E 22 [(.sl (.pos ⟨List.length h, 0, 0⟩) 1)] h_2).bind fun r6 =>
  gT 2 r6.1 true fun u6 =>
  gL (some (List.getD u6 0 .opq)) true fun s6x0 n6x0 =>
  gI .i64 (some (List.getD u6 1 .opq)) true fun i6x1 =>
  letK ((decide ((i6x1 : Int) = 0)) : Bool) fun b10 =>
  letK ((decide ((((n6x0 : Nat) : Int) : Int) = 1)) : Bool) fun b14 =>
  letK ((if b10 = true then b14 else false) : Bool) fun b15 =>
  chk (b15 = true → (0 : Int) ≤ 0 ∧ (0 : Int) < ((n6x0 : Nat) : Int)) <|
  atP (adP s6x0) b15 fun a18 =>
  atP (some (Ad.add a18 (Int.toNat 0 * 1))) b15 fun a19 =>
  gI .i64 (ld1 r6.2 a19) b15 fun i19 =>
  letK ((decide ((i19 : Int) = 0)) : Bool) fun b20 =>
  letK ((if b15 = true then b20 else false) : Bool) fun b21 =>
  (callO b21 (E 23 [(.agg [(.int .i64 11), (.int .i64 1), (.int .i64 0), (.int .i64 0), (.int .i64 0)]), (.agg [(.int .i64 11), (.int .i64 1), (.int .i64 0), (.int .i64 0), (.int .i64 0)])] r6.2) (.bool false) r6.2).bind fun r25 =>
  gB (some r25.1) b21 fun b25 =>
  letK ((if b21 = true then b25 else false) : Bool) fun b26 =>
  some ((.bool b26), r25.2)
  ) := (EV_eq (P := Try.prog) (T := T0) rfl cf21 [] h).trans (r21 mk0 E h)
end
end Go.Proofs.Ytepkdcgokedkdaa.H
