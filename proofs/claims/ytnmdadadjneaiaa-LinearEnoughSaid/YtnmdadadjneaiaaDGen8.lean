/- Parts of the proof, printed. -/
import Derived.Test.YtnmdadadjneaiaaLibD
import Derived.Test.YtnmdadadjneaiaaDGen7
import Derived.KernelRfl
set_option linter.unusedVariables false
set_option maxRecDepth 100000
namespace Go.Proofs.Ytnmdadadjneaiaa.D
open Go Go.Proofs.Ytnmdadadjneaiaa.Abs Abs.Sh Go.Proofs
section
variable {R : Type} (M : Mk) (C : Cal)
noncomputable section
def k3x5:=AC.ret
def k3x4:=sq (.mask 16) k3x5
def k3x3:=AC.mask 6
def k3x2:=sq (.cond (.tmp 15)
 (.seq (of [
 o 4 (.move (.c (.bool false)))]) k3x4)
  (.skip)) k3x3
def k3x11:=AC.ret
def k3x10:=sq (.mask 16) k3x11
def k3x9:=AC.mask 38
def k3x8:=sq (.cond (.tmp 27)
 (.seq (of [
 o 4 (.move (.c (.bool true)))]) k3x10)
  (.skip)) k3x9
def k3x20:=AC.exit 0
def k3x19:=AC.mask 1879048358
def k3x32:=AC.exit 2
def k3x31:=AC.mask 122138134182
def k3x37:=AC.join 122138134182
def k3x36:=sq (.cond (.tmp 51)
 (of [
 mv 52 10,
 bc 53 .add 52 1,
 mv 10 53])
  (.skip)) k3x37
def k3x35:=sq (ot [
 fa 40 1 12,
 li 41 40,
 fa 42 1 9,
 li 43 42,
 bt 44 .leq 41 43,
 mv 45 44,
 g 46 45 (.fieldAddr 1 (t 9)),
 g 47 45 (.load I (t 46)),
 g 48 45 (.fieldAddr 2 (t 12)),
 g 49 45 (.load I (t 48)),
 g 50 45 (.bin .other .leq (t 47) (t 49)),
 o 51 (.pick (t 45) (t 50) (.c (.bool false)))]) k3x36
def k3x34:=AC.mask 122138134182
def k3x33:=of [
 bc 54 .add 36 1,
 mv 36 54]
def k3x30:=sq (.seq (.block 3 (.seq (of [
 ia 38 4 34 36,
 o 39 (.load (.agg [(.int .i64), (.int .i64), (.int .i64), .bool]) (t 38)),
 o 12 (.allocL [(.int .i64 0), (.int .i64 0), (.int .i64 0), (.bool false)]),
 u (.store 4 (t 12) (t 39))]) k3x35)) k3x34) k3x33
def k3x29:=sq (.seq (.cond (.tmp 37)
 (.skip)
 (.seq (.mask 1879049894) k3x32)) k3x31) k3x30
def k3x28:=sq (of [
 bt 37 .lss 36 35]) k3x29
def k3x27:=AC.mask 1879049894
def k3x26:=sq (.block 2 (.loop 122138134182 1879049894 k3x28)) k3x27
def k3x43:=AC.ret
def k3x42:=sq (.mask 16) k3x43
def k3x41:=AC.mask 1879048358
def k3x40:=sq (.cond (.tmp 59)
 (.seq (of [
 o 4 (.move (.c (.bool true)))]) k3x42)
  (.skip)) k3x41
def k3x39:=sq (of [
 fa 58 3 9,
 lb 59 58]) k3x40
def k3x25:=sq (of [
 mv 55 7,
 mv 56 10,
 o 57 (.mm true [(t 55), (t 56)]),
 mv 7 57]) k3x39
def k3x24:=sq (.seq (of [
 mv 34 5,
 ln 35 34,
 o 36 (.move (c 0))]) k3x26) k3x25
def k3x23:=sq (of [
 o 10 (.move (c 0))]) k3x24
def k3x22:=AC.mask 1879048358
def k3x21:=of [
 bc 60 .add 30 1,
 mv 30 60]
def k3x18:=sq (.seq (.block 1 (.seq (of [
 ia 32 4 28 30,
 o 33 (.load (.agg [(.int .i64), (.int .i64), (.int .i64), .bool]) (t 32)),
 o 9 (.allocL [(.int .i64 0), (.int .i64 0), (.int .i64 0), (.bool false)]),
 u (.store 4 (t 9) (t 33))]) k3x23)) k3x22) k3x21
def k3x17:=sq (.seq (.cond (.tmp 31)
 (.skip)
 (.seq (.mask 134) k3x20)) k3x19) k3x18
def k3x16:=sq (of [
 bt 31 .lss 30 29]) k3x17
def k3x15:=AC.mask 134
def k3x14:=sq (.block 0 (.loop 1879048358 134 k3x16)) k3x15
def k3x48:=AC.ret
def k3x47:=sq (.mask 16) k3x48
def k3x46:=AC.mask 134
def k3x45:=sq (.cond (.tmp 62)
 (.seq (of [
 o 4 (.move (.c (.bool true)))]) k3x47)
  (.skip)) k3x46
def k3x52:=AC.ret
def k3x51:=sq (.mask 16) k3x52
def k3x50:=sq (ot [
 mv 77 6,
 bc 78 .eql 77 0,
 mv 79 78,
 g 80 79 (.fieldAddr 2 (t 13)),
 g 81 79 (.load I (t 80)),
 g 82 79 (.bin .other .eql (t 81) (c 0)),
 o 83 (.pick (t 79) (t 82) (.c (.bool false))),
 mv 4 83]) k3x51
def k3x49:=sq (of [
 o 72 (.load (.agg [(.int .i64), .sl, (.int .i64), .sl]) (t 2)),
 mv 73 1,
 o 74 (.call 12 [(t 72), (t 73)] [(.agg [.sl, .sl, (.int .i64)]), I] .opq),
 mv 71 74,
 o 75 (.extract (t 71) 0),
 o 76 (.extract (t 71) 1),
 o 13 (.allocL [(.sl .nil 0), (.sl .nil 0), (.int .i64 0)]),
 u (.store 3 (t 13) (t 75)),
 mv 6 76]) k3x50
def k3x44:=sq (of [
 mv 63 7,
 o 64 (.mm true [(t 63), (c 1)]),
 mv 65 1,
 mv 66 7,
 o 67 (.mm true [(t 66), (c 1)]),
 o 68 (.bin .other .sub (c 11) (t 67)),
 o 69 (.call 11 [(t 65), (t 68)] [I] (.int .i64 0)),
 bt 70 .add 64 69,
 mv 1 70]) k3x49
def k3x13:=sq (.seq (of [
 mv 61 7,
 bc 62 .gtr 61 10]) k3x45) k3x44
def k3x12:=sq (.seq (of [
 mv 28 5,
 ln 29 28,
 o 30 (.move (c 0))]) k3x14) k3x13
def k3x7:=sq (of [
 o 7 (.move (c 0))]) k3x12
def k3x6:=sq (.seq (ot [
 o 21 (.load (.agg [(.int .i64), .sl, (.int .i64), .sl]) (t 2)),
 o 22 (.call 10 [(t 21)] [(.cell .bool)] (.bool false)),
 o 23 (.un .not (t 22)),
 mv 24 23,
 f 25 24 (.move (t 6)),
 f 26 24 (.bin .other .neq (t 25) (c 0)),
 o 27 (.pick (t 24) (.c (.bool true)) (t 26))]) k3x8) k3x7
def k3x1:=sq (of [
 o 17 (.load (.agg [(.int .i64), .sl, (.int .i64), .sl]) (t 2)),
 o 18 (.call 9 [(t 17)] [(.cell .sl), I] .opq),
 mv 16 18,
 o 19 (.extract (t 16) 0),
 o 20 (.extract (t 16) 1),
 mv 5 19,
 mv 6 20]) k3x6
def k3x0:=sq (.seq (of [
 o 14 (.call 8 [] [(.cell .bool)] (.bool false)),
 o 15 (.un .not (t 14))]) k3x2) k3x1
end
noncomputable section
variable (i0x0 : Int) (s0x1 : SA) (n0x1 : Nat) (i0x2 : Int) (s0x3 : SA) (n0x3 : Nat) (i1 i2x0 : Int) (s2x1 : SA) (n2x1 : Nat) (i2x2 : Int) (s2x3 : SA) (n2x3 : Nat) (b4 : Bool) (s5 : SA) (n5 : Nat) (i7 i9x0 i9x1 i9x2 : Int) (b9x3 : Bool) (i10 : Int) (s28 : SA) (n28 : Nat) (i29 i30 : Int) (s34 : SA) (n34 : Nat) (i35 i36 : Int) (h : Heap) (Q : Kont R)
def c3 : AFn := ⟨84, [.tmp 4],
 .seq (of [
 o 2 (.boxL (t 0)),
 o 4 (.move (.c (.bool false)))]) k3x0⟩
def S3xe0 : St := ⟨.any::vi i1::.box [(.int .i64 i2x0), (.sl s2x1 n2x1), (.int .i64 i2x2), (.sl s2x3 n2x3)]::rep 4 (vi i7::rep 76 []), h⟩
def S3xe2 : St := ⟨(.any :: (vi i1 :: (.box [(.int .i64 i2x0), (.sl s2x1 n2x1), (.int .i64 i2x2), (.sl s2x3 n2x3)] :: (.any :: .any :: (vl s5 n5::.any::vi i7::.any::.box [(.int .i64 i9x0), (.int .i64 i9x1), (.int .i64 i9x2), (.bool b9x3)]::vi i10::rep 17 (vl s28 n28::vi i29::vi i30::rep 53 [])))))), h⟩
def S3xr : St := ⟨rep 4 (vb b4::rep 79 []), h⟩
def Q3x16 (M : Mk) (C : Cal) : Kont (AV × Heap) := (blockQ 0 (seqQ (evalE M C k3x15) (seqQ (evalE M C k3x13) (endQ [.tmp 4]))))
def L3x16 : Option R := loopE (evalE M C k3x16) 1879048358 134 ⟨(.any :: (vi i1 :: (.box [(.int .i64 i2x0), (.sl s2x1 n2x1), (.int .i64 i2x2), (.sl s2x3 n2x3)] :: (.any :: .any :: (vl s5 n5::.any::vi i7::rep 20 (vl s28 n28::vi i29::vi i30::rep 53 [])))))), h⟩ Q
def Q3x28 : Kont R := (blockQ 2 (seqQ (evalE M C k3x27) (seqQ (evalE M C k3x25) (blockQ 1 (seqQ (evalE M C k3x22) (seqQ (evalE M C k3x21) (roundQ M C k3x16 1879048358 134 Q)))))))
def L3x28 : Option R := loopE (evalE M C k3x28) 122138134182 1879049894 ⟨(.any :: (vi i1 :: (.box [(.int .i64 i2x0), (.sl s2x1 n2x1), (.int .i64 i2x2), (.sl s2x3 n2x3)] :: (.any :: .any :: (vl s5 n5::.any::vi i7::.any::.box [(.int .i64 i9x0), (.int .i64 i9x1), (.int .i64 i9x2), (.bool b9x3)]::vi i10::rep 17 (vl s28 n28::vi i29::vi i30::rep 3 (vl s34 n34::vi i35::vi i36::rep 47 []))))))), h⟩ Q
def J3x38 : Option R := M R (blockQ 3 (seqQ (evalE M C k3x34) (seqQ (evalE M C k3x33) (roundQ M C k3x28 122138134182 1879049894 Q)))) (.any :: (vi i1 :: (.box [(.int .i64 i2x0), (.sl s2x1 n2x1), (.int .i64 i2x2), (.sl s2x3 n2x3)] :: (.any :: .any :: (vl s5 n5::.any::vi i7::.any::.box [(.int .i64 i9x0), (.int .i64 i9x1), (.int .i64 i9x2), (.bool b9x3)]::vi i10::rep 17 (vl s28 n28::vi i29::vi i30::rep 3 (vl s34 n34::vi i35::vi i36::rep 47 []))))))) h
theorem r3 : runE M C c3 [(.agg [(.int .i64 i0x0), (.sl s0x1 n0x1), (.int .i64 i0x2), (.sl s0x3 n0x3)]), (.int .i64 i1)] h = (
 (C 8 [] h).bind fun r14 =>
 gB (some r14.1) true fun b14 =>
 if (!b14) = true then
  (
  some ((.bool false), r14.2)
  )
 else
  (
  (C 9 [(.agg [(.int .i64 i0x0), (.sl s0x1 n0x1), (.int .i64 i0x2), (.sl s0x3 n0x3)])] r14.2).bind fun r18 =>
  gT 2 r18.1 true fun u18 =>
  gL (some (List.getD u18 0 .opq)) true fun s18x0 n18x0 =>
  gI .i64 (some (List.getD u18 1 .opq)) true fun i18x1 =>
  (C 10 [(.agg [(.int .i64 i0x0), (.sl s0x1 n0x1), (.int .i64 i0x2), (.sl s0x3 n0x3)])] r18.2).bind fun r22 =>
  gB (some r22.1) true fun b22 =>
  letK (!decide (i18x1 = 0)) fun b26 =>
  letK (if (!b22) = true then true else b26) fun b27 =>
  if b27 = true then
   (
   some ((.bool true), r22.2)
   )
  else
   (
   L3x16 M C i1 i0x0 s0x1 n0x1 i0x2 s0x3 n0x3 s18x0 n18x0 0 s18x0 n18x0 (n18x0 : Int) 0 r22.2 (Q3x16 M C)
   )
  )
 ) := by kernel_rfl
theorem cf3 : cFn Try.prog 3 = some c3 := by kernel_rfl
theorem e3 : TEq (E 3 [(.agg [(.int .i64 i0x0), (.sl s0x1 n0x1), (.int .i64 i0x2), (.sl s0x3 n0x3)]), (.int .i64 i1)] h) (r3 mk0 E i0x0 s0x1 n0x1 i0x2 s0x3 n0x3 i1 h) := (EV_eq (P := Try.prog) (T := T0) rfl cf3 _ h).trans (r3 mk0 E i0x0 s0x1 n0x1 i0x2 s0x3 n0x3 i1 h)
theorem L3x16xaux : rnd M C k3x16 1879048358 134 ⟨(.any :: (vi i1 :: (.box [(.int .i64 i2x0), (.sl s2x1 n2x1), (.int .i64 i2x2), (.sl s2x3 n2x3)] :: (.any :: .any :: (vl s5 n5::.any::vi i7::rep 20 (vl s28 n28::vi i29::vi i30::rep 53 [])))))), h⟩ Q = (
 letK (decide (i30 < i29)) fun b31 =>
 if b31 = true then
  (
  chk (true = true → 0 ≤ i30 ∧ i30 < (n28 : Int)) <|
  atP (adP s28) true fun a32 =>
  gCells (ldN h (Ad.add a32 (Int.toNat i30 * 4)) 4) true fun l33 =>
  gI .i64 (l33[0]?) true fun i33x0 =>
  gI .i64 (l33[1]?) true fun i33x1 =>
  gI .i64 (l33[2]?) true fun i33x2 =>
  gB (l33[3]?) true fun b33x3 =>
  L3x28 M C i1 i2x0 s2x1 n2x1 i2x2 s2x3 n2x3 s5 n5 i7 i33x0 i33x1 i33x2 b33x3 0 s28 n28 i29 i30 s5 n5 (n5 : Int) 0 h (Q3x28 M C Q)
  )
 else
  (
  Q (.exit 0) (S3xe0 i1 i2x0 s2x1 n2x1 i2x2 s2x3 n2x3 i7 h)
  )
 ) := by kernel_rfl
theorem L3x16xeq : TEq (L3x16 mk0 C i1 i2x0 s2x1 n2x1 i2x2 s2x3 n2x3 s5 n5 i7 s28 n28 i29 i30 h Q) (L3x16xaux mk0 C i1 i2x0 s2x1 n2x1 i2x2 s2x3 n2x3 s5 n5 i7 s28 n28 i29 i30 h Q) := loop_te (by kernel_rfl)
theorem L3x28xaux : rnd M C k3x28 122138134182 1879049894 ⟨(.any :: (vi i1 :: (.box [(.int .i64 i2x0), (.sl s2x1 n2x1), (.int .i64 i2x2), (.sl s2x3 n2x3)] :: (.any :: .any :: (vl s5 n5::.any::vi i7::.any::.box [(.int .i64 i9x0), (.int .i64 i9x1), (.int .i64 i9x2), (.bool b9x3)]::vi i10::rep 17 (vl s28 n28::vi i29::vi i30::rep 3 (vl s34 n34::vi i35::vi i36::rep 47 []))))))), h⟩ Q = (
 letK (decide (i36 < i35)) fun b37 =>
 if b37 = true then
  (
  chk (true = true → 0 ≤ i36 ∧ i36 < (n34 : Int)) <|
  atP (adP s34) true fun a38 =>
  gCells (ldN h (Ad.add a38 (Int.toNat i36 * 4)) 4) true fun l39 =>
  gI .i64 (l39[0]?) true fun i39x0 =>
  gI .i64 (l39[1]?) true fun i39x1 =>
  gI .i64 (l39[2]?) true fun i39x2 =>
  gB (l39[3]?) true fun b39x3 =>
  letK (decide (i39x1 ≤ i9x1)) fun b44 =>
  gI .i64 (some (.int .i64 i9x1)) b44 fun i47 =>
  gI .i64 (some (.int .i64 i39x2)) b44 fun i49 =>
  letK (decide (i47 ≤ i49)) fun b50 =>
  letK (if b44 = true then b50 else false) fun b51 =>
  if b51 = true then
   (
   letK (IntKind.wrap .i64 (i10 + 1)) fun i53 =>
   J3x38 M C i1 i2x0 s2x1 n2x1 i2x2 s2x3 n2x3 s5 n5 i7 i9x0 i9x1 i9x2 b9x3 i53 s28 n28 i29 i30 s34 n34 i35 i36 h Q
   )
  else
   (
   J3x38 M C i1 i2x0 s2x1 n2x1 i2x2 s2x3 n2x3 s5 n5 i7 i9x0 i9x1 i9x2 b9x3 i10 s28 n28 i29 i30 s34 n34 i35 i36 h Q
   )
  )
 else
  (
  Q (.exit 2) (S3xe2 i1 i2x0 s2x1 n2x1 i2x2 s2x3 n2x3 s5 n5 i7 i9x0 i9x1 i9x2 b9x3 i10 s28 n28 i29 i30 h)
  )
 ) := by kernel_rfl
theorem L3x28xeq : TEq (L3x28 mk0 C i1 i2x0 s2x1 n2x1 i2x2 s2x3 n2x3 s5 n5 i7 i9x0 i9x1 i9x2 b9x3 i10 s28 n28 i29 i30 s34 n34 i35 i36 h Q) (L3x28xaux mk0 C i1 i2x0 s2x1 n2x1 i2x2 s2x3 n2x3 s5 n5 i7 i9x0 i9x1 i9x2 b9x3 i10 s28 n28 i29 i30 s34 n34 i35 i36 h Q) := loop_te (by kernel_rfl)
theorem J3x38xaux : (forceK tk (.any :: (vi i1 :: (.box [(.int .i64 i2x0), (.sl s2x1 n2x1), (.int .i64 i2x2), (.sl s2x3 n2x3)] :: (.any :: .any :: (vl s5 n5::.any::vi i7::.any::.box [(.int .i64 i9x0), (.int .i64 i9x1), (.int .i64 i9x2), (.bool b9x3)]::vi i10::rep 17 (vl s28 n28::vi i29::vi i30::rep 3 (vl s34 n34::vi i35::vi i36::rep 47 []))))))) fun e => (blockQ 3 (seqQ (evalE M C k3x34) (seqQ (evalE M C k3x33) (roundQ M C k3x28 122138134182 1879049894 Q)))) .normal ⟨e, h⟩) = (
 letK (IntKind.wrap .i64 (i36 + 1)) fun i54 =>
 L3x28 M C i1 i2x0 s2x1 n2x1 i2x2 s2x3 n2x3 s5 n5 i7 i9x0 i9x1 i9x2 b9x3 i10 s28 n28 i29 i30 s34 n34 i35 i54 h Q
 ) := by kernel_rfl
theorem J3x38xeq : TEq (J3x38 mk0 C i1 i2x0 s2x1 n2x1 i2x2 s2x3 n2x3 s5 n5 i7 i9x0 i9x1 i9x2 b9x3 i10 s28 n28 i29 i30 s34 n34 i35 i36 h Q) (J3x38xaux mk0 C i1 i2x0 s2x1 n2x1 i2x2 s2x3 n2x3 s5 n5 i7 i9x0 i9x1 i9x2 b9x3 i10 s28 n28 i29 i30 s34 n34 i35 i36 h Q) := join_te
theorem X3x16xe0 : Q3x16 M C (.exit 0) (S3xe0 i1 i2x0 s2x1 n2x1 i2x2 s2x3 n2x3 i7 h) = (
 letK (decide ((10 : Int) < i7)) fun b62 =>
 if b62 = true then
  (
  some ((.bool true), h)
  )
 else
  (
  letK (foldMM true i7 [1]) fun i64 =>
  letK (foldMM true i7 [1]) fun i67 =>
  letK (IntKind.wrap .i64 (11 - i67)) fun i68 =>
  (C 11 [(.int .i64 i1), (.int .i64 i68)] h).bind fun r69 =>
  gI .i64 (some r69.1) true fun i69 =>
  letK (IntKind.wrap .i64 (i64 + i69)) fun i70 =>
  (C 12 [(.agg [(.int .i64 i2x0), (.sl s2x1 n2x1), (.int .i64 i2x2), (.sl s2x3 n2x3)]), (.int .i64 i70)] r69.2).bind fun r74 =>
  gT 2 r74.1 true fun u74 =>
  gA (List.getD u74 0 .opq) true fun l74x0 =>
  chk (true = true → l74x0.length = 3) <|
  gL (l74x0[0]?) true fun s74x0x0 n74x0x0 =>
  gL (l74x0[1]?) true fun s74x0x1 n74x0x1 =>
  gI .i64 (l74x0[2]?) true fun i74x0x2 =>
  gI .i64 (some (List.getD u74 1 .opq)) true fun i74x1 =>
  letK (decide (i74x1 = 0)) fun b78 =>
  gI .i64 (some (.int .i64 i74x0x2)) b78 fun i81 =>
  letK (decide (i81 = 0)) fun b82 =>
  letK (if b78 = true then b82 else false) fun b83 =>
  some ((.bool b83), r74.2)
  )
 ) := by kernel_rfl
theorem X3x28xe2 : Q3x28 M C Q (.exit 2) (S3xe2 i1 i2x0 s2x1 n2x1 i2x2 s2x3 n2x3 s5 n5 i7 i9x0 i9x1 i9x2 b9x3 i10 s28 n28 i29 i30 h) = (
 letK (foldMM true i7 [i10]) fun i57 =>
 if b9x3 = true then
  (
  Q .ret (S3xr true h)
  )
 else
  (
  letK (IntKind.wrap .i64 (i30 + 1)) fun i60 =>
  L3x16 M C i1 i2x0 s2x1 n2x1 i2x2 s2x3 n2x3 s5 n5 i57 s28 n28 i29 i60 h Q
  )
 ) := by kernel_rfl
theorem X3x16xr : Q3x16 M C .ret (S3xr b4 h) = (
 some ((.bool b4), h)
 ) := by kernel_rfl
end
end
end Go.Proofs.Ytnmdadadjneaiaa.D
