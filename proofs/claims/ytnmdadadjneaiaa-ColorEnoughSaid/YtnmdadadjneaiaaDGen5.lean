/- Parts of the proof, printed. -/
import Derived.Test.YtnmdadadjneaiaaLibD
import Derived.Test.YtnmdadadjneaiaaDGen4
import Derived.KernelRfl
set_option linter.unusedVariables false
set_option maxRecDepth 100000
namespace Go.Proofs.Ytnmdadadjneaiaa.D
open Go Go.Proofs.Ytnmdadadjneaiaa.Abs Abs.Sh Go.Proofs
section
variable {R : Type} (M : Mk) (C : Cal)
noncomputable section
def k45x5:=AC.ret
def k45x4:=sq (.mask 4) k45x5
def k45x3:=AC.mask 2
def k45x2:=sq (.cond (.tmp 10)
 (.seq (of [
 o 2 (.move (c 0))]) k45x4)
  (.skip)) k45x3
def k45x7:=AC.ret
def k45x6:=sq (.mask 4) k45x7
def k45x1:=sq (of [
 fa 11 1 1,
 li 12 11,
 mv 2 12]) k45x6
def k45x0:=sq (.seq (ot [
 fa 3 0 1,
 li 4 3,
 bc 5 .eql 4 13,
 mv 6 5,
 f 7 6 (.fieldAddr 0 (t 1)),
 f 8 6 (.load I (t 7)),
 f 9 6 (.bin .other .eql (t 8) (c 23)),
 o 10 (.pick (t 6) (.c (.bool true)) (t 9))]) k45x2) k45x1
end
noncomputable section
variable (i0x0 i0x1 i0x2 i0x3 i0x4 : Int) (s0x5 : SA) (n0x5 : Nat) (h : Heap)
def c45 : AFn := ⟨13, [.tmp 2],
 .seq (of [
 o 1 (.boxL (t 0)),
 o 2 (.move (c 0))]) k45x0⟩
theorem r45 : runE M C c45 [(.agg [(.int .i64 i0x0), (.int .i64 i0x1), (.int .i64 i0x2), (.int .i64 i0x3), (.int .i64 i0x4), (.sl s0x5 n0x5)])] h = (
 letK (decide (i0x0 = 13)) fun b5 =>
 gI .i64 (some (.int .i64 i0x0)) (!b5) fun i8 =>
 letK (decide (i8 = 23)) fun b9 =>
 letK (if b5 = true then true else b9) fun b10 =>
 if b10 = true then
  (
  some ((.int .i64 0), h)
  )
 else
  (
  some ((.int .i64 i0x1), h)
  )
 ) := by kernel_rfl
theorem cf45 : cFn Try.prog 45 = some c45 := by kernel_rfl
theorem e45 : TEq (E 45 [(.agg [(.int .i64 i0x0), (.int .i64 i0x1), (.int .i64 i0x2), (.int .i64 i0x3), (.int .i64 i0x4), (.sl s0x5 n0x5)])] h) (r45 mk0 E i0x0 i0x1 i0x2 i0x3 i0x4 s0x5 n0x5 h) := (EV_eq (P := Try.prog) (T := T0) rfl cf45 _ h).trans (r45 mk0 E i0x0 i0x1 i0x2 i0x3 i0x4 s0x5 n0x5 h)
end
noncomputable section
def k83x8:=AC.exit 0
def k83x7:=AC.mask 898
def k83x15:=AC.ret
def k83x14:=sq (.mask 16) k83x15
def k83x13:=AC.mask 898
def k83x12:=sq (.cond (.tmp 15)
 (.seq (of [
 o 4 (.move (.c (.bool true)))]) k83x14)
  (.skip)) k83x13
def k83x11:=sq (of [
 mv 13 6,
 mv 14 1,
 bt 15 .eql 13 14]) k83x12
def k83x10:=AC.mask 898
def k83x9:=of [
 bc 16 .add 9 1,
 mv 9 16]
def k83x6:=sq (.seq (.block 1 (.seq (of [
 ia 11 1 7 9,
 li 12 11,
 mv 6 12]) k83x11)) k83x10) k83x9
def k83x5:=sq (.seq (.cond (.tmp 10)
 (.skip)
 (.seq (.mask 0) k83x8)) k83x7) k83x6
def k83x4:=sq (of [
 bt 10 .lss 9 8]) k83x5
def k83x3:=AC.mask 0
def k83x2:=sq (.block 0 (.loop 898 0 k83x4)) k83x3
def k83x17:=AC.ret
def k83x16:=sq (.mask 16) k83x17
def k83x1:=sq (of [
 o 4 (.move (.c (.bool false)))]) k83x16
def k83x0:=sq (.seq (of [
 mv 7 0,
 ln 8 7,
 o 9 (.move (c 0))]) k83x2) k83x1
end
noncomputable section
variable (s0 : SA) (n0 : Nat) (i1 : Int) (b4 : Bool) (s7 : SA) (n7 : Nat) (i8 i9 : Int) (h : Heap) (Q : Kont R)
def c83 : AFn := ⟨17, [.tmp 4],
 .seq (of [
 o 4 (.move (.c (.bool false)))]) k83x0⟩
def S83xr : St := ⟨rep 4 (vb b4::rep 12 []), h⟩
def S83xe0 : St := ⟨(rep 17 []), h⟩
def Q83x4 (M : Mk) (C : Cal) : Kont (AV × Heap) := (blockQ 0 (seqQ (evalE M C k83x3) (seqQ (evalE M C k83x1) (endQ [.tmp 4]))))
def L83x4 : Option R := loopE (evalE M C k83x4) 898 0 ⟨.any::vi i1::rep 5 (vl s7 n7::vi i8::vi i9::rep 7 []), h⟩ Q
theorem r83 : runE M C c83 [(.sl s0 n0), (.int .i64 i1)] h = (
 L83x4 M C i1 s0 n0 (n0 : Int) 0 h (Q83x4 M C)
 ) := by kernel_rfl
theorem cf83 : cFn Try.prog 83 = some c83 := by kernel_rfl
theorem e83 : TEq (E 83 [(.sl s0 n0), (.int .i64 i1)] h) (r83 mk0 E s0 n0 i1 h) := (EV_eq (P := Try.prog) (T := T0) rfl cf83 _ h).trans (r83 mk0 E s0 n0 i1 h)
theorem L83x4xaux : rnd M C k83x4 898 0 ⟨.any::vi i1::rep 5 (vl s7 n7::vi i8::vi i9::rep 7 []), h⟩ Q = (
 letK (decide (i9 < i8)) fun b10 =>
 if b10 = true then
  (
  chk (true = true → 0 ≤ i9 ∧ i9 < (n7 : Int)) <|
  atP (adP s7) true fun a11 =>
  gI .i64 (ld1 h (Ad.add a11 (Int.toNat i9 * 1))) true fun i12 =>
  letK (decide (i12 = i1)) fun b15 =>
  if b15 = true then
   (
   Q .ret (S83xr true h)
   )
  else
   (
   letK (IntKind.wrap .i64 (i9 + 1)) fun i16 =>
   L83x4 M C i1 s7 n7 i8 i16 h Q
   )
  )
 else
  (
  Q (.exit 0) (S83xe0 h)
  )
 ) := by kernel_rfl
theorem L83x4xeq : TEq (L83x4 mk0 C i1 s7 n7 i8 i9 h Q) (L83x4xaux mk0 C i1 s7 n7 i8 i9 h Q) := loop_te (by kernel_rfl)
theorem X83x4xr : Q83x4 M C .ret (S83xr b4 h) = (
 some ((.bool b4), h)
 ) := by kernel_rfl
theorem X83x4xe0 : Q83x4 M C (.exit 0) (S83xe0 h) = (
 some ((.bool false), h)
 ) := by kernel_rfl
end
noncomputable section
def k84x9:=AC.exit 0
def k84x8:=AC.mask 57352
def k84x14:=AC.join 57352
def k84x13:=sq (.cond (.tmp 20)
 (of [
 mv 21 3,
 mv 22 5,
 o 23 (.buildSl [(.int .i64 0)] 1 [(0, (t 22))]),
 o 24 (.append [(.int .i64 0)] 1 8 (t 21) (t 23)),
 mv 3 24])
  (.skip)) k84x14
def k84x12:=sq (of [
 mv 19 5,
 bc 20 .neq 19 0]) k84x13
def k84x11:=AC.mask 57352
def k84x10:=of [
 bc 25 .add 15 1,
 mv 15 25]
def k84x7:=sq (.seq (.block 1 (.seq (of [
 ia 17 1 13 15,
 li 18 17,
 mv 5 18]) k84x12)) k84x11) k84x10
def k84x6:=sq (.seq (.cond (.tmp 16)
 (.skip)
 (.seq (.mask 8) k84x9)) k84x8) k84x7
def k84x5:=sq (of [
 bt 16 .lss 15 14]) k84x6
def k84x4:=AC.mask 8
def k84x3:=sq (.block 0 (.loop 57352 8 k84x5)) k84x4
def k84x17:=AC.ret
def k84x16:=sq (.mask 4) k84x17
def k84x2:=sq (of [
 mv 26 3,
 mv 2 26]) k84x16
def k84x1:=sq (.seq (of [
 fa 6 2 1,
 li 7 6,
 fa 8 3 1,
 li 9 8,
 o 10 (.buildSl [(.int .i64 0), (.int .i64 0)] 1 [(0, (t 7)), (1, (t 9))]),
 fa 11 5 1,
 ls 12 11,
 o 13 (.append [(.int .i64 0)] 1 8 (t 10) (t 12)),
 ln 14 13,
 o 15 (.move (c 0))]) k84x3) k84x2
def k84x0:=sq (of [
 o 3 (.move (.c (.sl .nil 0)))]) k84x1
end
noncomputable section
variable (i0x0 i0x1 i0x2 i0x3 i0x4 : Int) (s0x5 : SA) (n0x5 : Nat) (s3 : SA) (n3 : Nat) (s13 : SA) (n13 : Nat) (i14 i15 : Int) (h : Heap) (Q : Kont R)
def c84 : AFn := ⟨27, [.tmp 2],
 .seq (of [
 o 1 (.boxL (t 0)),
 o 2 (.move (.c (.sl .nil 0)))]) k84x0⟩
def S84xe0 : St := ⟨rep 3 (vl s3 n3::rep 23 []), h⟩
def Q84x5 (M : Mk) (C : Cal) : Kont (AV × Heap) := (blockQ 0 (seqQ (evalE M C k84x4) (seqQ (evalE M C k84x2) (endQ [.tmp 2]))))
def L84x5 : Option R := loopE (evalE M C k84x5) 57352 8 ⟨rep 3 (vl s3 n3::rep 9 (vl s13 n13::vi i14::vi i15::rep 11 [])), h⟩ Q
def J84x15 : Option R := M R (blockQ 1 (seqQ (evalE M C k84x11) (seqQ (evalE M C k84x10) (roundQ M C k84x5 57352 8 Q)))) (rep 3 (vl s3 n3::rep 9 (vl s13 n13::vi i14::vi i15::rep 11 []))) h
theorem r84 (i0x0 i0x1 : Int) (i0x2 i0x3 i0x4 : Int) (s0x5 : SA) (n0x5 : Nat) (h : Heap) : runE M C c84 [(.agg [(.int .i64 i0x0), (.int .i64 i0x1), (.int .i64 i0x2), (.int .i64 i0x3), (.int .i64 i0x4), (.sl s0x5 n0x5)])] h = (
 newK h (.cells [(.int .i64 i0x2), (.int .i64 i0x3)] (.grow 1) 0) fun h_2 =>
 (ldSl h_2 s0x5 (n0x5 * 1)).bind fun y13 =>
 (apnd h_2 (.sl (.pos ⟨List.length h, 0, 0⟩) 2) 1 8 y13 n0x5).bind fun r13 =>
 gL (some r13.1) true fun s13 n13 =>
 L84x5 M C .nil 0 s13 n13 (n13 : Int) 0 r13.2 (Q84x5 M C)
 ) := by kernel_rfl
theorem cf84 : cFn Try.prog 84 = some c84 := by kernel_rfl
theorem e84 : TEq (E 84 [(.agg [(.int .i64 i0x0), (.int .i64 i0x1), (.int .i64 i0x2), (.int .i64 i0x3), (.int .i64 i0x4), (.sl s0x5 n0x5)])] h) (r84 mk0 E i0x0 i0x1 i0x2 i0x3 i0x4 s0x5 n0x5 h) := (EV_eq (P := Try.prog) (T := T0) rfl cf84 _ h).trans (r84 mk0 E i0x0 i0x1 i0x2 i0x3 i0x4 s0x5 n0x5 h)
theorem L84x5xaux : rnd M C k84x5 57352 8 ⟨rep 3 (vl s3 n3::rep 9 (vl s13 n13::vi i14::vi i15::rep 11 [])), h⟩ Q = (
 letK (decide (i15 < i14)) fun b16 =>
 if b16 = true then
  (
  chk (true = true → 0 ≤ i15 ∧ i15 < (n13 : Int)) <|
  atP (adP s13) true fun a17 =>
  gI .i64 (ld1 h (Ad.add a17 (Int.toNat i15 * 1))) true fun i18 =>
  letK (!decide (i18 = 0)) fun b20 =>
  if b20 = true then
   (
   newK h (.cells [(.int .i64 i18)] (.grow 1) 0) fun h_2 =>
   (ldSl h_2 (.pos ⟨List.length h, 0, 0⟩) (1 * 1)).bind fun y24 =>
   (apnd h_2 (.sl s3 n3) 1 8 y24 1).bind fun r24 =>
   gL (some r24.1) true fun s24 n24 =>
   J84x15 M C s24 n24 s13 n13 i14 i15 r24.2 Q
   )
  else
   (
   J84x15 M C s3 n3 s13 n13 i14 i15 h Q
   )
  )
 else
  (
  Q (.exit 0) (S84xe0 s3 n3 h)
  )
 ) := by kernel_rfl
theorem L84x5xeq : TEq (L84x5 mk0 C s3 n3 s13 n13 i14 i15 h Q) (L84x5xaux mk0 C s3 n3 s13 n13 i14 i15 h Q) := loop_te (by kernel_rfl)
theorem J84x15xaux : (forceK tk (rep 3 (vl s3 n3::rep 9 (vl s13 n13::vi i14::vi i15::rep 11 []))) fun e => (blockQ 1 (seqQ (evalE M C k84x11) (seqQ (evalE M C k84x10) (roundQ M C k84x5 57352 8 Q)))) .normal ⟨e, h⟩) = (
 letK (IntKind.wrap .i64 (i15 + 1)) fun i25 =>
 L84x5 M C s3 n3 s13 n13 i14 i25 h Q
 ) := by kernel_rfl
theorem J84x15xeq : TEq (J84x15 mk0 C s3 n3 s13 n13 i14 i15 h Q) (J84x15xaux mk0 C s3 n3 s13 n13 i14 i15 h Q) := join_te
theorem X84x5xe0 : Q84x5 M C (.exit 0) (S84xe0 s3 n3 h) = (
 some ((.sl s3 n3), h)
 ) := by kernel_rfl
end
noncomputable section
def k46x9:=AC.exit 0
def k46x8:=AC.mask 1560
def k46x7:=sq (.cond (.tmp 27)
 (.skip)
 (.seq (.mask 0) k46x9)) k46x8
def k46x22:=AC.exit 2
def k46x21:=AC.mask 22040
def k46x20:=sq (.cond (.tmp 55)
 (.skip)
 (.seq (.mask 13848) k46x22)) k46x21
def k46x29:=AC.ret
def k46x28:=sq (.mask 256) k46x29
def k46x27:=AC.mask 22040
def k46x26:=sq (.cond (.tmp 65)
 (.seq (of [
 o 8 (.move (.c (.bool true)))]) k46x28)
  (.skip)) k46x27
def k46x25:=of [
 fa 66 0 12,
 ls 67 66,
 mv 68 14,
 ia 69 6 67 68,
 o 70 (.load (.agg [(.int .i64), (.int .i64), (.int .i64), (.int .i64), (.int .i64), .sl]) (t 69)),
 o 71 (.call 45 [(t 70)] [I] (.int .i64 0)),
 mv 72 3,
 bt 73 .eql 71 72,
 mv 13 73]
def k46x24:=AC.mask 30232
def k46x23:=of [
 mv 56 14,
 bc 57 .add 56 1,
 mv 14 57]
def k46x19:=sq (.seq (.block 3 (.seq (.seq (of [
 fa 58 0 12,
 ls 59 58,
 mv 60 14,
 ia 61 6 59 60,
 o 62 (.load (.agg [(.int .i64), (.int .i64), (.int .i64), (.int .i64), (.int .i64), .sl]) (t 61)),
 o 63 (.call 84 [(t 62)] [(.cell .sl)] (.sl .nil 0)),
 mv 64 3,
 o 65 (.call 83 [(t 63), (t 64)] [(.cell .bool)] (.bool false))]) k46x26) k46x25)) k46x24) k46x23
def k46x18:=sq (.seq (ot [
 mv 47 14,
 fa 48 0 12,
 ls 49 48,
 ln 50 49,
 bt 51 .lss 47 50,
 mv 52 51,
 g 53 52 (.move (t 13)),
 g 54 52 (.un .not (t 53)),
 o 55 (.pick (t 52) (t 54) (.c (.bool false)))]) k46x20) k46x19
def k46x17:=AC.mask 13848
def k46x16:=sq (.block 2 (.loop 30232 13848 k46x18)) k46x17
def k46x33:=AC.exit 1
def k46x32:=AC.mask 5656
def k46x31:=sq (.cond (.tmp 74)
 (.seq (.mask 1560) k46x33)
 (.skip)) k46x32
def k46x38:=AC.ret
def k46x37:=sq (.mask 256) k46x38
def k46x36:=AC.mask 5656
def k46x35:=sq (.cond (.tmp 86)
 (.seq (of [
 o 8 (.move (.c (.bool true)))]) k46x37)
  (.skip)) k46x36
def k46x45:=AC.exit 4
def k46x44:=AC.mask 4332790137498830962146936344
def k46x51:=of [
 mv 103 10,
 mv 104 16,
 o 105 (.build [(.int .i64 0), (.int .i64 0)] [(0, 1, (t 104)), (1, 1, (c 0))]),
 o 106 (.buildSl [(.int .i64 0), (.int .i64 0)] 2 [(0, (t 105))]),
 o 107 (.append [(.int .i64 0), (.int .i64 0)] 2 16 (t 103) (t 106)),
 mv 10 107]
def k46x50:=AC.join 4332790137498830962146936344
def k46x49:=sq (.cond (.tmp 99)
 (.seq (of [
 mv 100 9,
 mv 101 16,
 ia 102 1 100 101,
 u (.store 1 (t 102) (.c (.bool true)))]) k46x51)
  (.skip)) k46x50
def k46x48:=sq (of [
 mv 95 9,
 mv 96 16,
 ia 97 1 95 96,
 lb 98 97,
 o 99 (.un .not (t 98))]) k46x49
def k46x47:=AC.mask 4332790137498830962146936344
def k46x46:=of [
 bc 108 .add 91 1,
 mv 91 108]
def k46x43:=sq (.seq (.block 5 (.seq (of [
 ia 93 1 89 91,
 li 94 93,
 mv 16 94]) k46x48)) k46x47) k46x46
def k46x42:=sq (.seq (.cond (.tmp 92)
 (.skip)
 (.seq (.mask 1560) k46x45)) k46x44) k46x43
def k46x41:=sq (of [
 bt 92 .lss 91 90]) k46x42
def k46x40:=AC.mask 1560
def k46x39:=sq (.block 4 (.loop 4332790137498830962146936344 1560 k46x41)) k46x40
def k46x34:=sq (of [
 fa 87 1 12,
 fa 88 5 87,
 ls 89 88,
 ln 90 89,
 o 91 (.move (c 0))]) k46x39
def k46x30:=sq (.seq (ot [
 fa 75 1 12,
 fa 76 2 75,
 li 77 76,
 mv 78 3,
 bt 79 .eql 77 78,
 mv 80 79,
 f 81 80 (.fieldAddr 1 (t 12)),
 f 82 80 (.fieldAddr 3 (t 81)),
 f 83 80 (.load I (t 82)),
 f 84 80 (.move (t 3)),
 f 85 80 (.bin .other .eql (t 83) (t 84)),
 o 86 (.pick (t 80) (.c (.bool true)) (t 85))]) k46x35) k46x34
def k46x15:=sq (.seq (of [
 mv 74 13]) k46x31) k46x30
def k46x14:=sq (.seq (of [
 o 45 (.indexArr 2 1 (t 11) (c 1)),
 li 46 45,
 mv 14 46]) k46x16) k46x15
def k46x13:=sq (of [
 o 13 (.move (.c (.bool false)))]) k46x14
def k46x12:=sq (of [
 fa 39 3 4,
 ls 40 39,
 o 41 (.indexArr 2 1 (t 11) (c 0)),
 li 42 41,
 ia 43 7 40 42,
 o 44 (.load (.agg [.sl, (.int .i64), (.int .i64), (.int .i64), (.int .i64), (.int .i64), .sl]) (t 43)),
 o 12 (.allocL [(.sl .nil 0), (.int .i64 0), (.int .i64 0), (.int .i64 0), (.int .i64 0), (.int .i64 0), (.sl .nil 0)]),
 u (.store 7 (t 12) (t 44))]) k46x13
def k46x11:=sq (of [
 mv 34 10,
 mv 35 10,
 ln 36 35,
 bc 37 .sub 36 1,
 o 38 (.slice 2 (t 34) none (some (t 37))),
 mv 10 38]) k46x12
def k46x10:=AC.join 1560
def k46x6:=sq (.block 1 (.seq (of [
 mv 28 10,
 mv 29 10,
 ln 30 29,
 bc 31 .sub 30 1,
 ia 32 2 28 31,
 o 33 (.load (.agg [(.int .i64), (.int .i64)]) (t 32)),
 o 11 (.allocL [(.int .i64 0), (.int .i64 0)]),
 u (.store 2 (t 11) (t 33))]) k46x11)) k46x10
def k46x5:=sq (.seq (of [
 mv 25 10,
 ln 26 25,
 bc 27 .gtr 26 0]) k46x7) k46x6
def k46x4:=AC.mask 0
def k46x55:=AC.ret
def k46x54:=sq (.mask 256) k46x55
def k46x3:=sq (of [
 o 8 (.move (.c (.bool false)))]) k46x54
def k46x2:=sq (.seq (.block 0 (.loop 1560 0 k46x5)) k46x4) k46x3
def k46x1:=sq (of [
 mv 21 1,
 mv 22 2,
 o 23 (.build [(.int .i64 0), (.int .i64 0)] [(0, 1, (t 21)), (1, 1, (t 22))]),
 o 24 (.buildSl [(.int .i64 0), (.int .i64 0)] 2 [(0, (t 23))]),
 mv 10 24]) k46x2
def k46x0:=sq (of [
 fa 17 3 4,
 ls 18 17,
 ln 19 18,
 o 20 (.makeSl [(.bool false)] 1 (t 19) (t 19)),
 mv 9 20]) k46x1
end
noncomputable section
variable (i0x0 : Int) (s0x1 : SA) (n0x1 : Nat) (i0x2 : Int) (s0x3 : SA) (n0x3 : Nat) (i1 i2 i3 i4x0 : Int) (s4x1 : SA) (n4x1 : Nat) (i4x2 : Int) (s4x3 : SA) (n4x3 : Nat) (b8 : Bool) (s9 : SA) (n9 : Nat) (s10 : SA) (n10 : Nat) (s12x0 : SA) (n12x0 : Nat) (i12x1 i12x2 i12x3 i12x4 i12x5 : Int) (s12x6 : SA) (n12x6 : Nat) (b13 : Bool) (i14 : Int) (s89 : SA) (n89 : Nat) (i90 i91 : Int) (h : Heap) (Q : Kont R)
def c46 : AFn := ⟨109, [.tmp 8],
 .seq (of [
 o 4 (.boxL (t 0)),
 o 8 (.move (.c (.bool false)))]) k46x0⟩
def S46xe0 : St := ⟨(rep 109 []), h⟩
def S46xr : St := ⟨rep 8 (vb b8::rep 100 []), h⟩
def S46xe2 : St := ⟨rep 3 (vi i3::.box [(.int .i64 i4x0), (.sl s4x1 n4x1), (.int .i64 i4x2), (.sl s4x3 n4x3)]::rep 4 (vl s9 n9::vl s10 n10::.any::.box [(.sl s12x0 n12x0), (.int .i64 i12x1), (.int .i64 i12x2), (.int .i64 i12x3), (.int .i64 i12x4), (.int .i64 i12x5), (.sl s12x6 n12x6)]::vb b13::rep 95 [])), h⟩
def S46xe4 : St := ⟨rep 3 (vi i3::.box [(.int .i64 i4x0), (.sl s4x1 n4x1), (.int .i64 i4x2), (.sl s4x3 n4x3)]::rep 4 (vl s9 n9::vl s10 n10::rep 98 [])), h⟩
def Q46x5 (M : Mk) (C : Cal) : Kont (AV × Heap) := (blockQ 0 (seqQ (evalE M C k46x4) (seqQ (evalE M C k46x3) (endQ [.tmp 8]))))
def L46x5 : Option R := loopE (evalE M C k46x5) 1560 0 ⟨rep 3 (vi i3::.box [(.int .i64 i4x0), (.sl s4x1 n4x1), (.int .i64 i4x2), (.sl s4x3 n4x3)]::rep 4 (vl s9 n9::vl s10 n10::rep 98 [])), h⟩ Q
def Q46x18 : Kont R := (blockQ 2 (seqQ (evalE M C k46x17) (seqQ (evalE M C k46x15) (blockQ 1 (seqQ (evalE M C k46x10) (roundQ M C k46x5 1560 0 Q))))))
def L46x18 : Option R := loopE (evalE M C k46x18) 30232 13848 ⟨rep 3 (vi i3::.box [(.int .i64 i4x0), (.sl s4x1 n4x1), (.int .i64 i4x2), (.sl s4x3 n4x3)]::rep 4 (vl s9 n9::vl s10 n10::.any::.box [(.sl s12x0 n12x0), (.int .i64 i12x1), (.int .i64 i12x2), (.int .i64 i12x3), (.int .i64 i12x4), (.int .i64 i12x5), (.sl s12x6 n12x6)]::vb b13::vi i14::rep 94 [])), h⟩ Q
def J46x53 : Option R := M R (roundQ M C k46x5 1560 0 Q) (rep 3 (vi i3::.box [(.int .i64 i4x0), (.sl s4x1 n4x1), (.int .i64 i4x2), (.sl s4x3 n4x3)]::rep 4 (vl s9 n9::vl s10 n10::rep 98 []))) h
def Q46x41 : Kont R := (blockQ 4 (seqQ (evalE M C k46x40) (blockQ 1 (seqQ (evalE M C k46x10) (roundQ M C k46x5 1560 0 Q)))))
def L46x41 : Option R := loopE (evalE M C k46x41) 4332790137498830962146936344 1560 ⟨rep 3 (vi i3::.box [(.int .i64 i4x0), (.sl s4x1 n4x1), (.int .i64 i4x2), (.sl s4x3 n4x3)]::rep 4 (vl s9 n9::vl s10 n10::rep 78 (vl s89 n89::vi i90::vi i91::rep 17 []))), h⟩ Q
def J46x52 : Option R := M R (blockQ 5 (seqQ (evalE M C k46x47) (seqQ (evalE M C k46x46) (roundQ M C k46x41 4332790137498830962146936344 1560 Q)))) (rep 3 (vi i3::.box [(.int .i64 i4x0), (.sl s4x1 n4x1), (.int .i64 i4x2), (.sl s4x3 n4x3)]::rep 4 (vl s9 n9::vl s10 n10::rep 78 (vl s89 n89::vi i90::vi i91::rep 17 [])))) h
theorem r46 : runE M C c46 [(.agg [(.int .i64 i0x0), (.sl s0x1 n0x1), (.int .i64 i0x2), (.sl s0x3 n0x3)]), (.int .i64 i1), (.int .i64 i2), (.int .i64 i3)] h = (
 chk ((0 : Int) ≤ (n0x3 : Int) ∧ ((n0x3 : Int) : Int) ≤ (n0x3 : Int) ∧ (n0x3 : Int) * ((1 : Nat) : Int) ≤ 70368744177664) <|
 newK h (.cells (repl (Int.toNat (n0x3 : Int)) [(.bool false)]) (.grow 1) 0) fun h_2 =>
 letK (Int.toNat (n0x3 : Int)) fun n20 =>
 newK h_2 (.cells [(.int .i64 i1), (.int .i64 i2)] (.grow 2) 0) fun h_3 =>
 L46x5 M C i3 i0x0 s0x1 n0x1 i0x2 s0x3 n0x3 (.pos ⟨List.length h, 0, 0⟩) n20 (.pos ⟨List.length h_2, 0, 0⟩) 1 h_3 (Q46x5 M C)
 ) := by kernel_rfl
theorem cf46 : cFn Try.prog 46 = some c46 := by kernel_rfl
theorem e46 : TEq (E 46 [(.agg [(.int .i64 i0x0), (.sl s0x1 n0x1), (.int .i64 i0x2), (.sl s0x3 n0x3)]), (.int .i64 i1), (.int .i64 i2), (.int .i64 i3)] h) (r46 mk0 E i0x0 s0x1 n0x1 i0x2 s0x3 n0x3 i1 i2 i3 h) := (EV_eq (P := Try.prog) (T := T0) rfl cf46 _ h).trans (r46 mk0 E i0x0 s0x1 n0x1 i0x2 s0x3 n0x3 i1 i2 i3 h)
theorem L46x5xaux : rnd M C k46x5 1560 0 ⟨rep 3 (vi i3::.box [(.int .i64 i4x0), (.sl s4x1 n4x1), (.int .i64 i4x2), (.sl s4x3 n4x3)]::rep 4 (vl s9 n9::vl s10 n10::rep 98 [])), h⟩ Q = (
 letK (decide ((0 : Int) < (n10 : Int))) fun b27 =>
 if b27 = true then
  (
  letK (IntKind.wrap .i64 ((n10 : Int) - 1)) fun i31 =>
  chk (true = true → 0 ≤ i31 ∧ i31 < (n10 : Int)) <|
  atP (adP s10) true fun a32 =>
  gCells (ldN h (Ad.add a32 (Int.toNat i31 * 2)) 2) true fun l33 =>
  gI .i64 (l33[0]?) true fun i33x0 =>
  gI .i64 (l33[1]?) true fun i33x1 =>
  letK (IntKind.wrap .i64 ((n10 : Int) - 1)) fun i37 =>
  chkC (true = true → 0 ≤ i37 ∧ hiOk h s10 n10 2 i37) <|
  letK (Int.toNat i37) fun n38 =>
  chk (true = true → (0 : Int) ≤ 0 ∧ (0 : Int) < ((2 : Nat) : Int)) <|
  gI .i64 ([(.int .i64 i33x0), (.int .i64 i33x1)][(0 + Int.toNat 0 * 1)]?) true fun i42 =>
  chk (true = true → 0 ≤ i42 ∧ i42 < (n4x3 : Int)) <|
  atP (adP s4x3) true fun a43 =>
  gCells (ldN h (Ad.add a43 (Int.toNat i42 * 7)) 7) true fun l44 =>
  gL (l44[0]?) true fun s44x0 n44x0 =>
  gI .i64 (l44[1]?) true fun i44x1 =>
  gI .i64 (l44[2]?) true fun i44x2 =>
  gI .i64 (l44[3]?) true fun i44x3 =>
  gI .i64 (l44[4]?) true fun i44x4 =>
  gI .i64 (l44[5]?) true fun i44x5 =>
  gL (l44[6]?) true fun s44x6 n44x6 =>
  chk (true = true → (0 : Int) ≤ 1 ∧ (1 : Int) < ((2 : Nat) : Int)) <|
  gI .i64 ([(.int .i64 i33x0), (.int .i64 i33x1)][(0 + Int.toNat 1 * 1)]?) true fun i46 =>
  L46x18 M C i3 i4x0 s4x1 n4x1 i4x2 s4x3 n4x3 s9 n9 s10 n38 s44x0 n44x0 i44x1 i44x2 i44x3 i44x4 i44x5 s44x6 n44x6 false i46 h (Q46x18 M C Q)
  )
 else
  (
  Q (.exit 0) (S46xe0 h)
  )
 ) := by kernel_rfl
theorem L46x5xeq : TEq (L46x5 mk0 C i3 i4x0 s4x1 n4x1 i4x2 s4x3 n4x3 s9 n9 s10 n10 h Q) (L46x5xaux mk0 C i3 i4x0 s4x1 n4x1 i4x2 s4x3 n4x3 s9 n9 s10 n10 h Q) := loop_te (by kernel_rfl)
theorem L46x18xaux : rnd M C k46x18 30232 13848 ⟨rep 3 (vi i3::.box [(.int .i64 i4x0), (.sl s4x1 n4x1), (.int .i64 i4x2), (.sl s4x3 n4x3)]::rep 4 (vl s9 n9::vl s10 n10::.any::.box [(.sl s12x0 n12x0), (.int .i64 i12x1), (.int .i64 i12x2), (.int .i64 i12x3), (.int .i64 i12x4), (.int .i64 i12x5), (.sl s12x6 n12x6)]::vb b13::vi i14::rep 94 [])), h⟩ Q = (
 letK (decide (i14 < (n12x0 : Int))) fun b51 =>
 letK (if b51 = true then (!b13) else false) fun b55 =>
 if b55 = true then
  (
  chk (true = true → 0 ≤ i14 ∧ i14 < (n12x0 : Int)) <|
  atP (adP s12x0) true fun a61 =>
  gCells (ldN h (Ad.add a61 (Int.toNat i14 * 6)) 6) true fun l62 =>
  gI .i64 (l62[0]?) true fun i62x0 =>
  gI .i64 (l62[1]?) true fun i62x1 =>
  gI .i64 (l62[2]?) true fun i62x2 =>
  gI .i64 (l62[3]?) true fun i62x3 =>
  gI .i64 (l62[4]?) true fun i62x4 =>
  gL (l62[5]?) true fun s62x5 n62x5 =>
  (C 84 [(.agg [(.int .i64 i62x0), (.int .i64 i62x1), (.int .i64 i62x2), (.int .i64 i62x3), (.int .i64 i62x4), (.sl s62x5 n62x5)])] h).bind fun r63 =>
  gL (some r63.1) true fun s63 n63 =>
  (C 83 [(.sl s63 n63), (.int .i64 i3)] r63.2).bind fun r65 =>
  gB (some r65.1) true fun b65 =>
  if b65 = true then
   (
   Q .ret (S46xr true r65.2)
   )
  else
   (
   chk (true = true → 0 ≤ i14 ∧ i14 < (n12x0 : Int)) <|
   atP (adP s12x0) true fun a69 =>
   gCells (ldN r65.2 (Ad.add a69 (Int.toNat i14 * 6)) 6) true fun l70 =>
   gI .i64 (l70[0]?) true fun i70x0 =>
   gI .i64 (l70[1]?) true fun i70x1 =>
   gI .i64 (l70[2]?) true fun i70x2 =>
   gI .i64 (l70[3]?) true fun i70x3 =>
   gI .i64 (l70[4]?) true fun i70x4 =>
   gL (l70[5]?) true fun s70x5 n70x5 =>
   (C 45 [(.agg [(.int .i64 i70x0), (.int .i64 i70x1), (.int .i64 i70x2), (.int .i64 i70x3), (.int .i64 i70x4), (.sl s70x5 n70x5)])] r65.2).bind fun r71 =>
   gI .i64 (some r71.1) true fun i71 =>
   letK (decide (i71 = i3)) fun b73 =>
   letK (IntKind.wrap .i64 (i14 + 1)) fun i57 =>
   L46x18 M C i3 i4x0 s4x1 n4x1 i4x2 s4x3 n4x3 s9 n9 s10 n10 s12x0 n12x0 i12x1 i12x2 i12x3 i12x4 i12x5 s12x6 n12x6 b73 i57 r71.2 Q
   )
  )
 else
  (
  Q (.exit 2) (S46xe2 i3 i4x0 s4x1 n4x1 i4x2 s4x3 n4x3 s9 n9 s10 n10 s12x0 n12x0 i12x1 i12x2 i12x3 i12x4 i12x5 s12x6 n12x6 b13 h)
  )
 ) := by kernel_rfl
theorem L46x18xeq : TEq (L46x18 mk0 C i3 i4x0 s4x1 n4x1 i4x2 s4x3 n4x3 s9 n9 s10 n10 s12x0 n12x0 i12x1 i12x2 i12x3 i12x4 i12x5 s12x6 n12x6 b13 i14 h Q) (L46x18xaux mk0 C i3 i4x0 s4x1 n4x1 i4x2 s4x3 n4x3 s9 n9 s10 n10 s12x0 n12x0 i12x1 i12x2 i12x3 i12x4 i12x5 s12x6 n12x6 b13 i14 h Q) := loop_te (by kernel_rfl)
theorem X46x5xe0 : Q46x5 M C (.exit 0) (S46xe0 h) = (
 some ((.bool false), h)
 ) := by kernel_rfl
theorem X46x18xr : Q46x18 M C Q .ret (S46xr b8 h) = (
 Q .ret (S46xr b8 h)
 ) := by kernel_rfl
theorem X46x5xr : Q46x5 M C .ret (S46xr b8 h) = (
 some ((.bool b8), h)
 ) := by kernel_rfl
theorem X46x18xe2 : Q46x18 M C Q (.exit 2) (S46xe2 i3 i4x0 s4x1 n4x1 i4x2 s4x3 n4x3 s9 n9 s10 n10 s12x0 n12x0 i12x1 i12x2 i12x3 i12x4 i12x5 s12x6 n12x6 b13 h) = (
 if b13 = true then
  (
  J46x53 M C i3 i4x0 s4x1 n4x1 i4x2 s4x3 n4x3 s9 n9 s10 n10 h Q
  )
 else
  (
  letK (decide (i12x3 = i3)) fun b79 =>
  gI .i64 (some (.int .i64 i12x4)) (!b79) fun i83 =>
  letK (decide (i83 = i3)) fun b85 =>
  letK (if b79 = true then true else b85) fun b86 =>
  if b86 = true then
   (
   Q .ret (S46xr true h)
   )
  else
   (
   L46x41 M C i3 i4x0 s4x1 n4x1 i4x2 s4x3 n4x3 s9 n9 s10 n10 s12x6 n12x6 (n12x6 : Int) 0 h (Q46x41 M C Q)
   )
  )
 ) := by kernel_rfl
theorem J46x53xaux : (forceK tk (rep 3 (vi i3::.box [(.int .i64 i4x0), (.sl s4x1 n4x1), (.int .i64 i4x2), (.sl s4x3 n4x3)]::rep 4 (vl s9 n9::vl s10 n10::rep 98 []))) fun e => (roundQ M C k46x5 1560 0 Q) .normal ⟨e, h⟩) = (
 L46x5 M C i3 i4x0 s4x1 n4x1 i4x2 s4x3 n4x3 s9 n9 s10 n10 h Q
 ) := by kernel_rfl
theorem J46x53xeq : TEq (J46x53 mk0 C i3 i4x0 s4x1 n4x1 i4x2 s4x3 n4x3 s9 n9 s10 n10 h Q) (J46x53xaux mk0 C i3 i4x0 s4x1 n4x1 i4x2 s4x3 n4x3 s9 n9 s10 n10 h Q) := join_te
theorem L46x41xaux : rnd M C k46x41 4332790137498830962146936344 1560 ⟨rep 3 (vi i3::.box [(.int .i64 i4x0), (.sl s4x1 n4x1), (.int .i64 i4x2), (.sl s4x3 n4x3)]::rep 4 (vl s9 n9::vl s10 n10::rep 78 (vl s89 n89::vi i90::vi i91::rep 17 []))), h⟩ Q = (
 letK (decide (i91 < i90)) fun b92 =>
 if b92 = true then
  (
  chk (true = true → 0 ≤ i91 ∧ i91 < (n89 : Int)) <|
  atP (adP s89) true fun a93 =>
  gI .i64 (ld1 h (Ad.add a93 (Int.toNat i91 * 1))) true fun i94 =>
  chk (true = true → 0 ≤ i94 ∧ i94 < (n9 : Int)) <|
  atP (adP s9) true fun a97 =>
  gB (ld1 h (Ad.add a97 (Int.toNat i94 * 1))) true fun b98 =>
  if (!b98) = true then
   (
   chk (true = true → 0 ≤ i94 ∧ i94 < (n9 : Int)) <|
   atP (adP s9) true fun a102 =>
   (st1 h (Ad.add a102 (Int.toNat i94 * 1)) (.bool true)).bind fun h_2 =>
   newK h_2 (.cells [(.int .i64 i94), (.int .i64 0)] (.grow 2) 0) fun h_3 =>
   (ldSl h_3 (.pos ⟨List.length h_2, 0, 0⟩) (1 * 2)).bind fun y107 =>
   (apnd h_3 (.sl s10 n10) 2 16 y107 1).bind fun r107 =>
   gL (some r107.1) true fun s107 n107 =>
   J46x52 M C i3 i4x0 s4x1 n4x1 i4x2 s4x3 n4x3 s9 n9 s107 n107 s89 n89 i90 i91 r107.2 Q
   )
  else
   (
   J46x52 M C i3 i4x0 s4x1 n4x1 i4x2 s4x3 n4x3 s9 n9 s10 n10 s89 n89 i90 i91 h Q
   )
  )
 else
  (
  Q (.exit 4) (S46xe4 i3 i4x0 s4x1 n4x1 i4x2 s4x3 n4x3 s9 n9 s10 n10 h)
  )
 ) := by kernel_rfl
theorem L46x41xeq : TEq (L46x41 mk0 C i3 i4x0 s4x1 n4x1 i4x2 s4x3 n4x3 s9 n9 s10 n10 s89 n89 i90 i91 h Q) (L46x41xaux mk0 C i3 i4x0 s4x1 n4x1 i4x2 s4x3 n4x3 s9 n9 s10 n10 s89 n89 i90 i91 h Q) := loop_te (by kernel_rfl)
theorem J46x52xaux : (forceK tk (rep 3 (vi i3::.box [(.int .i64 i4x0), (.sl s4x1 n4x1), (.int .i64 i4x2), (.sl s4x3 n4x3)]::rep 4 (vl s9 n9::vl s10 n10::rep 78 (vl s89 n89::vi i90::vi i91::rep 17 [])))) fun e => (blockQ 5 (seqQ (evalE M C k46x47) (seqQ (evalE M C k46x46) (roundQ M C k46x41 4332790137498830962146936344 1560 Q)))) .normal ⟨e, h⟩) = (
 letK (IntKind.wrap .i64 (i91 + 1)) fun i108 =>
 L46x41 M C i3 i4x0 s4x1 n4x1 i4x2 s4x3 n4x3 s9 n9 s10 n10 s89 n89 i90 i108 h Q
 ) := by kernel_rfl
theorem J46x52xeq : TEq (J46x52 mk0 C i3 i4x0 s4x1 n4x1 i4x2 s4x3 n4x3 s9 n9 s10 n10 s89 n89 i90 i91 h Q) (J46x52xaux mk0 C i3 i4x0 s4x1 n4x1 i4x2 s4x3 n4x3 s9 n9 s10 n10 s89 n89 i90 i91 h Q) := join_te
theorem X46x41xe4 : Q46x41 M C Q (.exit 4) (S46xe4 i3 i4x0 s4x1 n4x1 i4x2 s4x3 n4x3 s9 n9 s10 n10 h) = (
 J46x53 M C i3 i4x0 s4x1 n4x1 i4x2 s4x3 n4x3 s9 n9 s10 n10 h Q
 ) := by kernel_rfl
end
noncomputable section
def k15x8:=AC.exit 0
def k15x7:=AC.mask 7174
def k15x18:=AC.exit 2
def k15x17:=AC.mask 1842214
def k15x25:=AC.ret
def k15x24:=sq (.mask 16) k15x25
def k15x23:=AC.mask 1842214
def k15x22:=sq (.cond (.tmp 46)
 (.seq (of [
 o 4 (.move (.c (.bool true)))]) k15x24)
  (.skip)) k15x23
def k15x21:=sq (ot [
 fa 25 0 8,
 li 26 25,
 bc 27 .eql 26 101,
 mv 28 27,
 f 29 28 (.fieldAddr 0 (t 8)),
 f 30 28 (.load I (t 29)),
 f 31 28 (.bin .other .eql (t 30) (c 102)),
 o 32 (.pick (t 28) (.c (.bool true)) (t 31)),
 mv 33 32,
 g 34 33 (.load (.agg [(.int .i64), (.int .i64), (.int .i64), (.int .i64), (.int .i64), .sl]) (t 8)),
 g 35 33 (.call 45 [(t 34)] [I] (.int .i64 0)),
 g 36 33 (.move (t 1)),
 g 37 33 (.bin .other .neq (t 35) (t 36)),
 o 38 (.pick (t 33) (t 37) (.c (.bool false))),
 mv 39 38,
 g 40 39 (.load (.agg [(.int .i64), .sl, (.int .i64), .sl]) (t 2)),
 g 41 39 (.move (t 5)),
 g 42 39 (.move (t 7)),
 g 43 39 (.bin .other .add (t 42) (c 1)),
 g 44 39 (.move (t 1)),
 g 45 39 (.call 46 [(t 40), (t 41), (t 43), (t 44)] [(.cell .bool)] (.bool false)),
 o 46 (.pick (t 39) (t 45) (.c (.bool false)))]) k15x22
def k15x20:=AC.mask 1842214
def k15x19:=of [
 bc 47 .add 20 1,
 mv 20 47]
def k15x16:=sq (.seq (.block 3 (.seq (of [
 mv 22 20,
 ia 23 6 18 20,
 o 24 (.load (.agg [(.int .i64), (.int .i64), (.int .i64), (.int .i64), (.int .i64), .sl]) (t 23)),
 o 8 (.allocL [(.int .i64 0), (.int .i64 0), (.int .i64 0), (.int .i64 0), (.int .i64 0), (.sl .nil 0)]),
 mv 7 22,
 u (.store 6 (t 8) (t 24))]) k15x21)) k15x20) k15x19
def k15x15:=sq (.seq (.cond (.tmp 21)
 (.skip)
 (.seq (.mask 7174) k15x18)) k15x17) k15x16
def k15x14:=sq (of [
 bt 21 .lss 20 19]) k15x15
def k15x13:=AC.mask 7174
def k15x12:=sq (.block 2 (.loop 1842214 7174 k15x14)) k15x13
def k15x11:=sq (of [
 fa 17 0 6,
 ls 18 17,
 ln 19 18,
 o 20 (.move (c 0))]) k15x12
def k15x10:=AC.mask 7174
def k15x9:=of [
 bc 48 .add 12 1,
 mv 12 48]
def k15x6:=sq (.seq (.block 1 (.seq (of [
 mv 14 12,
 ia 15 7 10 12,
 o 16 (.load (.agg [.sl, (.int .i64), (.int .i64), (.int .i64), (.int .i64), (.int .i64), .sl]) (t 15)),
 o 6 (.allocL [(.sl .nil 0), (.int .i64 0), (.int .i64 0), (.int .i64 0), (.int .i64 0), (.int .i64 0), (.sl .nil 0)]),
 mv 5 14,
 u (.store 7 (t 6) (t 16))]) k15x11)) k15x10) k15x9
def k15x5:=sq (.seq (.cond (.tmp 13)
 (.skip)
 (.seq (.mask 0) k15x8)) k15x7) k15x6
def k15x4:=sq (of [
 bt 13 .lss 12 11]) k15x5
def k15x3:=AC.mask 0
def k15x2:=sq (.block 0 (.loop 7174 0 k15x4)) k15x3
def k15x27:=AC.ret
def k15x26:=sq (.mask 16) k15x27
def k15x1:=sq (of [
 o 4 (.move (.c (.bool false)))]) k15x26
def k15x0:=sq (.seq (of [
 fa 9 3 2,
 ls 10 9,
 ln 11 10,
 o 12 (.move (c 0))]) k15x2) k15x1
end
noncomputable section
variable (i0x0 : Int) (s0x1 : SA) (n0x1 : Nat) (i0x2 : Int) (s0x3 : SA) (n0x3 : Nat) (i1 i2x0 : Int) (s2x1 : SA) (n2x1 : Nat) (i2x2 : Int) (s2x3 : SA) (n2x3 : Nat) (b4 : Bool) (i5 : Int) (s10 : SA) (n10 : Nat) (i11 i12 : Int) (s18 : SA) (n18 : Nat) (i19 i20 : Int) (h : Heap) (Q : Kont R)
def c15 : AFn := ⟨49, [.tmp 4],
 .seq (of [
 o 2 (.boxL (t 0)),
 o 4 (.move (.c (.bool false)))]) k15x0⟩
def S15xe0 : St := ⟨(rep 49 []), h⟩
def S15xr : St := ⟨rep 4 (vb b4::rep 44 []), h⟩
def S15xe2 : St := ⟨.any::vi i1::.box [(.int .i64 i2x0), (.sl s2x1 n2x1), (.int .i64 i2x2), (.sl s2x3 n2x3)]::rep 7 (vl s10 n10::vi i11::vi i12::rep 36 []), h⟩
def Q15x4 (M : Mk) (C : Cal) : Kont (AV × Heap) := (blockQ 0 (seqQ (evalE M C k15x3) (seqQ (evalE M C k15x1) (endQ [.tmp 4]))))
def L15x4 : Option R := loopE (evalE M C k15x4) 7174 0 ⟨.any::vi i1::.box [(.int .i64 i2x0), (.sl s2x1 n2x1), (.int .i64 i2x2), (.sl s2x3 n2x3)]::rep 7 (vl s10 n10::vi i11::vi i12::rep 36 []), h⟩ Q
def Q15x14 : Kont R := (blockQ 2 (seqQ (evalE M C k15x13) (blockQ 1 (seqQ (evalE M C k15x10) (seqQ (evalE M C k15x9) (roundQ M C k15x4 7174 0 Q))))))
def L15x14 : Option R := loopE (evalE M C k15x14) 1842214 7174 ⟨(.any :: (vi i1 :: (.box [(.int .i64 i2x0), (.sl s2x1 n2x1), (.int .i64 i2x2), (.sl s2x3 n2x3)] :: (.any :: .any :: (vi i5::rep 4 (vl s10 n10::vi i11::vi i12::rep 5 (vl s18 n18::vi i19::vi i20::rep 28 []))))))), h⟩ Q
theorem r15 : runE M C c15 [(.agg [(.int .i64 i0x0), (.sl s0x1 n0x1), (.int .i64 i0x2), (.sl s0x3 n0x3)]), (.int .i64 i1)] h = (
 L15x4 M C i1 i0x0 s0x1 n0x1 i0x2 s0x3 n0x3 s0x3 n0x3 (n0x3 : Int) 0 h (Q15x4 M C)
 ) := by kernel_rfl
theorem cf15 : cFn Try.prog 15 = some c15 := by kernel_rfl
theorem e15 : TEq (E 15 [(.agg [(.int .i64 i0x0), (.sl s0x1 n0x1), (.int .i64 i0x2), (.sl s0x3 n0x3)]), (.int .i64 i1)] h) (r15 mk0 E i0x0 s0x1 n0x1 i0x2 s0x3 n0x3 i1 h) := (EV_eq (P := Try.prog) (T := T0) rfl cf15 _ h).trans (r15 mk0 E i0x0 s0x1 n0x1 i0x2 s0x3 n0x3 i1 h)
theorem L15x4xaux : rnd M C k15x4 7174 0 ⟨.any::vi i1::.box [(.int .i64 i2x0), (.sl s2x1 n2x1), (.int .i64 i2x2), (.sl s2x3 n2x3)]::rep 7 (vl s10 n10::vi i11::vi i12::rep 36 []), h⟩ Q = (
 letK (decide (i12 < i11)) fun b13 =>
 if b13 = true then
  (
  chk (true = true → 0 ≤ i12 ∧ i12 < (n10 : Int)) <|
  atP (adP s10) true fun a15 =>
  gCells (ldN h (Ad.add a15 (Int.toNat i12 * 7)) 7) true fun l16 =>
  gL (l16[0]?) true fun s16x0 n16x0 =>
  gI .i64 (l16[1]?) true fun i16x1 =>
  gI .i64 (l16[2]?) true fun i16x2 =>
  gI .i64 (l16[3]?) true fun i16x3 =>
  gI .i64 (l16[4]?) true fun i16x4 =>
  gI .i64 (l16[5]?) true fun i16x5 =>
  gL (l16[6]?) true fun s16x6 n16x6 =>
  L15x14 M C i1 i2x0 s2x1 n2x1 i2x2 s2x3 n2x3 i12 s10 n10 i11 i12 s16x0 n16x0 (n16x0 : Int) 0 h (Q15x14 M C Q)
  )
 else
  (
  Q (.exit 0) (S15xe0 h)
  )
 ) := by kernel_rfl
theorem L15x4xeq : TEq (L15x4 mk0 C i1 i2x0 s2x1 n2x1 i2x2 s2x3 n2x3 s10 n10 i11 i12 h Q) (L15x4xaux mk0 C i1 i2x0 s2x1 n2x1 i2x2 s2x3 n2x3 s10 n10 i11 i12 h Q) := loop_te (by kernel_rfl)
theorem L15x14xaux : rnd M C k15x14 1842214 7174 ⟨(.any :: (vi i1 :: (.box [(.int .i64 i2x0), (.sl s2x1 n2x1), (.int .i64 i2x2), (.sl s2x3 n2x3)] :: (.any :: .any :: (vi i5::rep 4 (vl s10 n10::vi i11::vi i12::rep 5 (vl s18 n18::vi i19::vi i20::rep 28 []))))))), h⟩ Q = (
 letK (decide (i20 < i19)) fun b21 =>
 if b21 = true then
  (
  chk (true = true → 0 ≤ i20 ∧ i20 < (n18 : Int)) <|
  atP (adP s18) true fun a23 =>
  gCells (ldN h (Ad.add a23 (Int.toNat i20 * 6)) 6) true fun l24 =>
  gI .i64 (l24[0]?) true fun i24x0 =>
  gI .i64 (l24[1]?) true fun i24x1 =>
  gI .i64 (l24[2]?) true fun i24x2 =>
  gI .i64 (l24[3]?) true fun i24x3 =>
  gI .i64 (l24[4]?) true fun i24x4 =>
  gL (l24[5]?) true fun s24x5 n24x5 =>
  letK (decide (i24x0 = 101)) fun b27 =>
  gI .i64 (some (.int .i64 i24x0)) (!b27) fun i30 =>
  letK (decide (i30 = 102)) fun b31 =>
  letK (if b27 = true then true else b31) fun b32 =>
  chk (b32 = true → 0 + 6 ≤ 6) <|
  gI .i64 (some (.int .i64 i24x0)) b32 fun i34x0 =>
  gI .i64 (some (.int .i64 i24x1)) b32 fun i34x1 =>
  gI .i64 (some (.int .i64 i24x2)) b32 fun i34x2 =>
  gI .i64 (some (.int .i64 i24x3)) b32 fun i34x3 =>
  gI .i64 (some (.int .i64 i24x4)) b32 fun i34x4 =>
  gL (some (.sl s24x5 n24x5)) b32 fun s34x5 n34x5 =>
  (callO b32 (C 45 [(.agg [(.int .i64 i34x0), (.int .i64 i34x1), (.int .i64 i34x2), (.int .i64 i34x3), (.int .i64 i34x4), (.sl s34x5 n34x5)])] h) (.int .i64 0) h).bind fun r35 =>
  gI .i64 (some r35.1) b32 fun i35 =>
  letK (!decide (i35 = i1)) fun b37 =>
  letK (if b32 = true then b37 else false) fun b38 =>
  chk (b38 = true → 0 + 4 ≤ 4) <|
  gI .i64 (some (.int .i64 i2x0)) b38 fun i40x0 =>
  gL (some (.sl s2x1 n2x1)) b38 fun s40x1 n40x1 =>
  gI .i64 (some (.int .i64 i2x2)) b38 fun i40x2 =>
  gL (some (.sl s2x3 n2x3)) b38 fun s40x3 n40x3 =>
  letK (IntKind.wrap .i64 (i20 + 1)) fun i43 =>
  (callO b38 (C 46 [(.agg [(.int .i64 i40x0), (.sl s40x1 n40x1), (.int .i64 i40x2), (.sl s40x3 n40x3)]), (.int .i64 i5), (.int .i64 i43), (.int .i64 i1)] r35.2) (.bool false) r35.2).bind fun r45 =>
  gB (some r45.1) b38 fun b45 =>
  letK (if b38 = true then b45 else false) fun b46 =>
  if b46 = true then
   (
   Q .ret (S15xr true r45.2)
   )
  else
   (
   letK (IntKind.wrap .i64 (i20 + 1)) fun i47 =>
   L15x14 M C i1 i2x0 s2x1 n2x1 i2x2 s2x3 n2x3 i5 s10 n10 i11 i12 s18 n18 i19 i47 r45.2 Q
   )
  )
 else
  (
  Q (.exit 2) (S15xe2 i1 i2x0 s2x1 n2x1 i2x2 s2x3 n2x3 s10 n10 i11 i12 h)
  )
 ) := by kernel_rfl
theorem L15x14xeq : TEq (L15x14 mk0 C i1 i2x0 s2x1 n2x1 i2x2 s2x3 n2x3 i5 s10 n10 i11 i12 s18 n18 i19 i20 h Q) (L15x14xaux mk0 C i1 i2x0 s2x1 n2x1 i2x2 s2x3 n2x3 i5 s10 n10 i11 i12 s18 n18 i19 i20 h Q) := loop_te (by kernel_rfl)
theorem X15x14xr : Q15x14 M C Q .ret (S15xr b4 h) = (
 Q .ret (S15xr b4 h)
 ) := by kernel_rfl
theorem X15x4xr : Q15x4 M C .ret (S15xr b4 h) = (
 some ((.bool b4), h)
 ) := by kernel_rfl
theorem X15x14xe2 : Q15x14 M C Q (.exit 2) (S15xe2 i1 i2x0 s2x1 n2x1 i2x2 s2x3 n2x3 s10 n10 i11 i12 h) = (
 letK (IntKind.wrap .i64 (i12 + 1)) fun i48 =>
 L15x4 M C i1 i2x0 s2x1 n2x1 i2x2 s2x3 n2x3 s10 n10 i11 i48 h Q
 ) := by kernel_rfl
end
noncomputable section
def k4x5:=AC.ret
def k4x4:=sq (.mask 4) k4x5
def k4x3:=AC.mask 2
def k4x2:=sq (.cond (.tmp 12)
 (.seq (of [
 o 2 (.move (.c (.bool false)))]) k4x4)
  (.skip)) k4x3
def k4x11:=AC.ret
def k4x10:=sq (.mask 4) k4x11
def k4x9:=AC.mask 10
def k4x8:=sq (.cond (.tmp 24)
 (.seq (of [
 o 2 (.move (.c (.bool true)))]) k4x10)
  (.skip)) k4x9
def k4x21:=AC.exit 0
def k4x20:=AC.mask 1879048290
def k4x26:=of [
 mv 48 6,
 mv 49 5,
 o 50 (.indexArr 2 1 (t 8) (c 0)),
 li 51 50,
 ia 52 1 49 51,
 li 53 52,
 mv 54 5,
 o 55 (.indexArr 2 1 (t 8) (c 1)),
 li 56 55,
 ia 57 1 54 56,
 li 58 57,
 o 59 (.mm true [(t 48), (t 53), (t 58)]),
 mv 6 59]
def k4x25:=sq (of [
 mv 41 5,
 o 42 (.indexArr 2 1 (t 8) (c 1)),
 li 43 42,
 ia 44 1 41 43,
 li 45 44,
 bc 46 .add 45 1,
 ia 47 1 41 43,
 u (.store 1 (t 47) (t 46))]) k4x26
def k4x24:=sq (of [
 mv 34 5,
 o 35 (.indexArr 2 1 (t 8) (c 0)),
 li 36 35,
 ia 37 1 34 36,
 li 38 37,
 bc 39 .add 38 1,
 ia 40 1 34 36,
 u (.store 1 (t 40) (t 39))]) k4x25
def k4x23:=AC.mask 1879048290
def k4x22:=of [
 bc 60 .add 30 1,
 mv 30 60]
def k4x19:=sq (.seq (.block 1 (.seq (of [
 ia 32 2 28 30,
 o 33 (.load (.agg [(.int .i64), (.int .i64)]) (t 32)),
 o 8 (.allocL [(.int .i64 0), (.int .i64 0)]),
 u (.store 2 (t 8) (t 33))]) k4x24)) k4x23) k4x22
def k4x18:=sq (.seq (.cond (.tmp 31)
 (.skip)
 (.seq (.mask 66) k4x21)) k4x20) k4x19
def k4x17:=sq (of [
 bt 31 .lss 30 29]) k4x18
def k4x16:=AC.mask 66
def k4x15:=sq (.block 0 (.loop 1879048290 66 k4x17)) k4x16
def k4x31:=AC.ret
def k4x30:=sq (.mask 4) k4x31
def k4x29:=AC.mask 66
def k4x28:=sq (.cond (.tmp 62)
 (.seq (of [
 o 2 (.move (.c (.bool true)))]) k4x30)
  (.skip)) k4x29
def k4x37:=AC.ret
def k4x36:=sq (.mask 4) k4x37
def k4x35:=AC.mask 514
def k4x34:=sq (.cond (.tmp 79)
 (.seq (of [
 o 2 (.move (.c (.bool false)))]) k4x36)
  (.skip)) k4x35
def k4x45:=AC.exit 2
def k4x44:=AC.mask 1538
def k4x43:=sq (.cond (.tmp 83)
 (.skip)
 (.seq (.mask 0) k4x45)) k4x44
def k4x51:=AC.ret
def k4x50:=sq (.mask 4) k4x51
def k4x49:=AC.mask 1538
def k4x48:=sq (.cond (.tmp 97)
 (.seq (of [
 o 2 (.move (.c (.bool false)))]) k4x50)
  (.skip)) k4x49
def k4x47:=AC.mask 1538
def k4x46:=of [
 mv 84 10,
 bc 85 .add 84 1,
 mv 10 85]
def k4x42:=sq (.seq (.block 3 (.seq (ot [
 fa 86 1 9,
 ls 87 86,
 mv 88 10,
 ia 89 1 87 88,
 li 90 89,
 bc 91 .geq 90 0,
 mv 92 91,
 g 93 92 (.load (.agg [(.int .i64), .sl, (.int .i64), .sl]) (t 1)),
 g 94 92 (.move (t 10)),
 g 95 92 (.call 15 [(t 93), (t 94)] [(.cell .bool)] (.bool false)),
 g 96 92 (.un .not (t 95)),
 o 97 (.pick (t 92) (t 96) (.c (.bool false)))]) k4x48)) k4x47) k4x46
def k4x41:=sq (.seq (of [
 mv 80 10,
 fa 81 2 1,
 li 82 81,
 bt 83 .lss 80 82]) k4x43) k4x42
def k4x40:=AC.mask 0
def k4x39:=sq (.block 2 (.loop 1538 0 k4x41)) k4x40
def k4x53:=AC.ret
def k4x52:=sq (.mask 4) k4x53
def k4x38:=sq (of [
 o 2 (.move (.c (.bool true)))]) k4x52
def k4x33:=sq (.seq (of [
 o 10 (.move (c 1))]) k4x39) k4x38
def k4x32:=sq (.seq (ot [
 mv 70 4,
 bc 71 .neq 70 0,
 mv 72 71,
 f 73 72 (.fieldAddr 1 (t 9)),
 f 74 72 (.load (.cell .sl) (t 73)),
 f 75 72 (.lenSl (t 74)),
 f 76 72 (.fieldAddr 2 (t 1)),
 f 77 72 (.load I (t 76)),
 f 78 72 (.bin .other .neq (t 75) (t 77)),
 o 79 (.pick (t 72) (.c (.bool true)) (t 78))]) k4x34) k4x33
def k4x27:=sq (of [
 o 64 (.load (.agg [(.int .i64), .sl, (.int .i64), .sl]) (t 1)),
 mv 65 6,
 bc 66 .add 65 1,
 o 67 (.call 14 [(t 64), (t 66)] [(.agg [.sl, .sl, (.int .i64)]), I] .opq),
 mv 63 67,
 o 68 (.extract (t 63) 0),
 o 69 (.extract (t 63) 1),
 o 9 (.allocL [(.sl .nil 0), (.sl .nil 0), (.int .i64 0)]),
 u (.store 3 (t 9) (t 68)),
 mv 4 69]) k4x32
def k4x14:=sq (.seq (of [
 mv 61 6,
 bc 62 .geq 61 10]) k4x28) k4x27
def k4x13:=sq (.seq (of [
 mv 28 3,
 ln 29 28,
 o 30 (.move (c 0))]) k4x15) k4x14
def k4x12:=sq (of [
 o 6 (.move (c 0))]) k4x13
def k4x7:=sq (of [
 fa 25 2 1,
 li 26 25,
 o 27 (.makeSl [(.int .i64 0)] 8 (t 26) (t 26)),
 mv 5 27]) k4x12
def k4x6:=sq (.seq (ot [
 o 18 (.load (.agg [(.int .i64), .sl, (.int .i64), .sl]) (t 1)),
 o 19 (.call 10 [(t 18)] [(.cell .bool)] (.bool false)),
 o 20 (.un .not (t 19)),
 mv 21 20,
 f 22 21 (.move (t 4)),
 f 23 21 (.bin .other .neq (t 22) (c 0)),
 o 24 (.pick (t 21) (.c (.bool true)) (t 23))]) k4x8) k4x7
def k4x1:=sq (of [
 o 14 (.load (.agg [(.int .i64), .sl, (.int .i64), .sl]) (t 1)),
 o 15 (.call 13 [(t 14)] [(.cell .sl), I] .opq),
 mv 13 15,
 o 16 (.extract (t 13) 0),
 o 17 (.extract (t 13) 1),
 mv 3 16,
 mv 4 17]) k4x6
def k4x0:=sq (.seq (of [
 o 11 (.call 8 [] [(.cell .bool)] (.bool false)),
 o 12 (.un .not (t 11))]) k4x2) k4x1
end
noncomputable section
variable (i0x0 : Int) (s0x1 : SA) (n0x1 : Nat) (i0x2 : Int) (s0x3 : SA) (n0x3 : Nat) (i1x0 : Int) (s1x1 : SA) (n1x1 : Nat) (i1x2 : Int) (s1x3 : SA) (n1x3 : Nat) (b2 : Bool) (s5 : SA) (n5 : Nat) (i6 : Int) (s9x0 : SA) (n9x0 : Nat) (s9x1 : SA) (n9x1 : Nat) (i9x2 i10 : Int) (s28 : SA) (n28 : Nat) (i29 i30 : Int) (h : Heap) (Q : Kont R)
def c4 : AFn := ⟨98, [.tmp 2],
 .seq (of [
 o 1 (.boxL (t 0)),
 o 2 (.move (.c (.bool false)))]) k4x0⟩
def S4xe0 : St := ⟨.any::.box [(.int .i64 i1x0), (.sl s1x1 n1x1), (.int .i64 i1x2), (.sl s1x3 n1x3)]::rep 4 (vi i6::rep 91 []), h⟩
def S4xr : St := ⟨(.any :: .any :: (vb b2::rep 95 [])), h⟩
def S4xe2 : St := ⟨(rep 98 []), h⟩
def Q4x17 (M : Mk) (C : Cal) : Kont (AV × Heap) := (blockQ 0 (seqQ (evalE M C k4x16) (seqQ (evalE M C k4x14) (endQ [.tmp 2]))))
def L4x17 : Option R := loopE (evalE M C k4x17) 1879048290 66 ⟨.any::.box [(.int .i64 i1x0), (.sl s1x1 n1x1), (.int .i64 i1x2), (.sl s1x3 n1x3)]::rep 3 (vl s5 n5::vi i6::rep 21 (vl s28 n28::vi i29::vi i30::rep 67 [])), h⟩ Q
def Q4x41 (M : Mk) (C : Cal) : Kont (AV × Heap) := (blockQ 2 (seqQ (evalE M C k4x40) (seqQ (evalE M C k4x38) (endQ [.tmp 2]))))
def L4x41 : Option R := loopE (evalE M C k4x41) 1538 0 ⟨.any::.box [(.int .i64 i1x0), (.sl s1x1 n1x1), (.int .i64 i1x2), (.sl s1x3 n1x3)]::rep 7 (.box [(.sl s9x0 n9x0), (.sl s9x1 n9x1), (.int .i64 i9x2)]::vi i10::rep 87 []), h⟩ Q
theorem r4 : runE M C c4 [(.agg [(.int .i64 i0x0), (.sl s0x1 n0x1), (.int .i64 i0x2), (.sl s0x3 n0x3)])] h = (
 (C 8 [] h).bind fun r11 =>
 gB (some r11.1) true fun b11 =>
 if (!b11) = true then
  (
  some ((.bool false), r11.2)
  )
 else
  (
  (C 13 [(.agg [(.int .i64 i0x0), (.sl s0x1 n0x1), (.int .i64 i0x2), (.sl s0x3 n0x3)])] r11.2).bind fun r15 =>
  gT 2 r15.1 true fun u15 =>
  gL (some (List.getD u15 0 .opq)) true fun s15x0 n15x0 =>
  gI .i64 (some (List.getD u15 1 .opq)) true fun i15x1 =>
  (C 10 [(.agg [(.int .i64 i0x0), (.sl s0x1 n0x1), (.int .i64 i0x2), (.sl s0x3 n0x3)])] r15.2).bind fun r19 =>
  gB (some r19.1) true fun b19 =>
  letK (!decide (i15x1 = 0)) fun b23 =>
  letK (if (!b19) = true then true else b23) fun b24 =>
  if b24 = true then
   (
   some ((.bool true), r19.2)
   )
  else
   (
   chk (0 ≤ i0x2 ∧ i0x2 ≤ i0x2 ∧ i0x2 * ((8 : Nat) : Int) ≤ 70368744177664) <|
   newK r19.2 (.cells (repl (Int.toNat i0x2) [(.int .i64 0)]) (.grow 1) 0) fun h_2 =>
   letK (Int.toNat i0x2) fun n27 =>
   L4x17 M C i0x0 s0x1 n0x1 i0x2 s0x3 n0x3 (.pos ⟨List.length r19.2, 0, 0⟩) n27 0 s15x0 n15x0 (n15x0 : Int) 0 h_2 (Q4x17 M C)
   )
  )
 ) := by kernel_rfl
theorem cf4 : cFn Try.prog 4 = some c4 := by kernel_rfl
theorem e4 : TEq (E 4 [(.agg [(.int .i64 i0x0), (.sl s0x1 n0x1), (.int .i64 i0x2), (.sl s0x3 n0x3)])] h) (r4 mk0 E i0x0 s0x1 n0x1 i0x2 s0x3 n0x3 h) := (EV_eq (P := Try.prog) (T := T0) rfl cf4 _ h).trans (r4 mk0 E i0x0 s0x1 n0x1 i0x2 s0x3 n0x3 h)
theorem L4x17xaux : rnd M C k4x17 1879048290 66 ⟨.any::.box [(.int .i64 i1x0), (.sl s1x1 n1x1), (.int .i64 i1x2), (.sl s1x3 n1x3)]::rep 3 (vl s5 n5::vi i6::rep 21 (vl s28 n28::vi i29::vi i30::rep 67 [])), h⟩ Q = (
 letK (decide (i30 < i29)) fun b31 =>
 if b31 = true then
  (
  chk (true = true → 0 ≤ i30 ∧ i30 < (n28 : Int)) <|
  atP (adP s28) true fun a32 =>
  gCells (ldN h (Ad.add a32 (Int.toNat i30 * 2)) 2) true fun l33 =>
  gI .i64 (l33[0]?) true fun i33x0 =>
  gI .i64 (l33[1]?) true fun i33x1 =>
  chk (true = true → (0 : Int) ≤ 0 ∧ (0 : Int) < ((2 : Nat) : Int)) <|
  gI .i64 ([(.int .i64 i33x0), (.int .i64 i33x1)][(0 + Int.toNat 0 * 1)]?) true fun i36 =>
  chk (true = true → 0 ≤ i36 ∧ i36 < (n5 : Int)) <|
  atP (adP s5) true fun a37 =>
  gI .i64 (ld1 h (Ad.add a37 (Int.toNat i36 * 1))) true fun i38 =>
  letK (IntKind.wrap .i64 (i38 + 1)) fun i39 =>
  chk (true = true → 0 ≤ i36 ∧ i36 < (n5 : Int)) <|
  atP (adP s5) true fun a40 =>
  (st1 h (Ad.add a40 (Int.toNat i36 * 1)) (.int .i64 i39)).bind fun h_2 =>
  chk (true = true → (0 : Int) ≤ 1 ∧ (1 : Int) < ((2 : Nat) : Int)) <|
  gI .i64 ([(.int .i64 i33x0), (.int .i64 i33x1)][(0 + Int.toNat 1 * 1)]?) true fun i43 =>
  chk (true = true → 0 ≤ i43 ∧ i43 < (n5 : Int)) <|
  atP (adP s5) true fun a44 =>
  gI .i64 (ld1 h_2 (Ad.add a44 (Int.toNat i43 * 1))) true fun i45 =>
  letK (IntKind.wrap .i64 (i45 + 1)) fun i46 =>
  chk (true = true → 0 ≤ i43 ∧ i43 < (n5 : Int)) <|
  atP (adP s5) true fun a47 =>
  (st1 h_2 (Ad.add a47 (Int.toNat i43 * 1)) (.int .i64 i46)).bind fun h_3 =>
  chk (true = true → (0 : Int) ≤ 0 ∧ (0 : Int) < ((2 : Nat) : Int)) <|
  gI .i64 ([(.int .i64 i33x0), (.int .i64 i33x1)][(0 + Int.toNat 0 * 1)]?) true fun i51 =>
  chk (true = true → 0 ≤ i51 ∧ i51 < (n5 : Int)) <|
  atP (adP s5) true fun a52 =>
  gI .i64 (ld1 h_3 (Ad.add a52 (Int.toNat i51 * 1))) true fun i53 =>
  chk (true = true → (0 : Int) ≤ 1 ∧ (1 : Int) < ((2 : Nat) : Int)) <|
  gI .i64 ([(.int .i64 i33x0), (.int .i64 i33x1)][(0 + Int.toNat 1 * 1)]?) true fun i56 =>
  chk (true = true → 0 ≤ i56 ∧ i56 < (n5 : Int)) <|
  atP (adP s5) true fun a57 =>
  gI .i64 (ld1 h_3 (Ad.add a57 (Int.toNat i56 * 1))) true fun i58 =>
  letK (foldMM true i6 [i53, i58]) fun i59 =>
  letK (IntKind.wrap .i64 (i30 + 1)) fun i60 =>
  L4x17 M C i1x0 s1x1 n1x1 i1x2 s1x3 n1x3 s5 n5 i59 s28 n28 i29 i60 h_3 Q
  )
 else
  (
  Q (.exit 0) (S4xe0 i1x0 s1x1 n1x1 i1x2 s1x3 n1x3 i6 h)
  )
 ) := by kernel_rfl
theorem L4x17xeq : TEq (L4x17 mk0 C i1x0 s1x1 n1x1 i1x2 s1x3 n1x3 s5 n5 i6 s28 n28 i29 i30 h Q) (L4x17xaux mk0 C i1x0 s1x1 n1x1 i1x2 s1x3 n1x3 s5 n5 i6 s28 n28 i29 i30 h Q) := loop_te (by kernel_rfl)
theorem X4x17xe0 : Q4x17 M C (.exit 0) (S4xe0 i1x0 s1x1 n1x1 i1x2 s1x3 n1x3 i6 h) = (
 letK (decide ((10 : Int) ≤ i6)) fun b62 =>
 if b62 = true then
  (
  some ((.bool true), h)
  )
 else
  (
  letK (IntKind.wrap .i64 (i6 + 1)) fun i66 =>
  (C 14 [(.agg [(.int .i64 i1x0), (.sl s1x1 n1x1), (.int .i64 i1x2), (.sl s1x3 n1x3)]), (.int .i64 i66)] h).bind fun r67 =>
  gT 2 r67.1 true fun u67 =>
  gA (List.getD u67 0 .opq) true fun l67x0 =>
  chk (true = true → l67x0.length = 3) <|
  gL (l67x0[0]?) true fun s67x0x0 n67x0x0 =>
  gL (l67x0[1]?) true fun s67x0x1 n67x0x1 =>
  gI .i64 (l67x0[2]?) true fun i67x0x2 =>
  gI .i64 (some (List.getD u67 1 .opq)) true fun i67x1 =>
  letK (!decide (i67x1 = 0)) fun b71 =>
  gL (some (.sl s67x0x1 n67x0x1)) (!b71) fun s74 n74 =>
  gI .i64 (some (.int .i64 i1x2)) (!b71) fun i77 =>
  letK (!decide (((n74 : Int) : Int) = i77)) fun b78 =>
  letK (if b71 = true then true else b78) fun b79 =>
  if b79 = true then
   (
   some ((.bool false), r67.2)
   )
  else
   (
   L4x41 M C i1x0 s1x1 n1x1 i1x2 s1x3 n1x3 s67x0x0 n67x0x0 s67x0x1 n67x0x1 i67x0x2 1 r67.2 (Q4x41 M C)
   )
  )
 ) := by kernel_rfl
theorem L4x41xaux : rnd M C k4x41 1538 0 ⟨.any::.box [(.int .i64 i1x0), (.sl s1x1 n1x1), (.int .i64 i1x2), (.sl s1x3 n1x3)]::rep 7 (.box [(.sl s9x0 n9x0), (.sl s9x1 n9x1), (.int .i64 i9x2)]::vi i10::rep 87 []), h⟩ Q = (
 letK (decide (i10 < i1x2)) fun b83 =>
 if b83 = true then
  (
  chk (true = true → 0 ≤ i10 ∧ i10 < (n9x1 : Int)) <|
  atP (adP s9x1) true fun a89 =>
  gI .i64 (ld1 h (Ad.add a89 (Int.toNat i10 * 1))) true fun i90 =>
  letK (decide (0 ≤ i90)) fun b91 =>
  chk (b91 = true → 0 + 4 ≤ 4) <|
  gI .i64 (some (.int .i64 i1x0)) b91 fun i93x0 =>
  gL (some (.sl s1x1 n1x1)) b91 fun s93x1 n93x1 =>
  gI .i64 (some (.int .i64 i1x2)) b91 fun i93x2 =>
  gL (some (.sl s1x3 n1x3)) b91 fun s93x3 n93x3 =>
  (callO b91 (C 15 [(.agg [(.int .i64 i93x0), (.sl s93x1 n93x1), (.int .i64 i93x2), (.sl s93x3 n93x3)]), (.int .i64 i10)] h) (.bool false) h).bind fun r95 =>
  gB (some r95.1) b91 fun b95 =>
  letK (if b91 = true then (!b95) else false) fun b97 =>
  if b97 = true then
   (
   Q .ret (S4xr false r95.2)
   )
  else
   (
   letK (IntKind.wrap .i64 (i10 + 1)) fun i85 =>
   L4x41 M C i1x0 s1x1 n1x1 i1x2 s1x3 n1x3 s9x0 n9x0 s9x1 n9x1 i9x2 i85 r95.2 Q
   )
  )
 else
  (
  Q (.exit 2) (S4xe2 h)
  )
 ) := by kernel_rfl
theorem L4x41xeq : TEq (L4x41 mk0 C i1x0 s1x1 n1x1 i1x2 s1x3 n1x3 s9x0 n9x0 s9x1 n9x1 i9x2 i10 h Q) (L4x41xaux mk0 C i1x0 s1x1 n1x1 i1x2 s1x3 n1x3 s9x0 n9x0 s9x1 n9x1 i9x2 i10 h Q) := loop_te (by kernel_rfl)
theorem X4x41xe2 : Q4x41 M C (.exit 2) (S4xe2 h) = (
 some ((.bool true), h)
 ) := by kernel_rfl
end
end
end Go.Proofs.Ytnmdadadjneaiaa.D
