/- Parts of the proof, printed. -/
import Derived.Test.YtnmdadadjneaiaaLibD
import Derived.Test.YtnmdadadjneaiaaDGen4
import Derived.KernelRfl
set_option linter.unusedVariables false
set_option maxRecDepth 100000
namespace Go.Proofs.Ytnmdadadjneaiaa.D
open Go Go.Proofs.Ytnmdadadjneaiaa.Abs Abs.Sh Go.Proofs
section
variable {R : Type} (M : Mk) (C : Cal)
noncomputable section
variable (i0 i1 : Int) (p2 p5 : Option Ad) (h : Heap)
def J27x4 : Res := M (AV × Heap) (seqQ (evalE M C k27x1) (endQ [])) (.any::vi i1::rep 3 (vp p5::rep 34 [])) h
theorem r27 : runE M C c27 [(.int .i64 i0), (.int .i64 i1), (.ptr p2)] h = (
 atP p2 true fun a6 =>
 gL (ld1 h a6) true fun s6 n6 =>
 chk (true = true → 0 ≤ i0 ∧ i0 < (n6 : Int)) <|
 atP (adP s6) true fun a8 =>
 gI .i64 (ld1 h (Ad.add (Ad.add a8 (Int.toNat i0 * 4)) 1)) true fun i12 =>
 letK (decide (i12 < 0)) fun b13 =>
 if b13 = true then
  (
  (st1 h (Ad.add (Ad.add a8 (Int.toNat i0 * 4)) 1) (.int .i64 i1)).bind fun h_2 =>
  (st1 h_2 (Ad.add (Ad.add a8 (Int.toNat i0 * 4)) 2) (.int .i64 i1)).bind fun h_3 =>
  J27x4 M C i1 (some (Ad.add a8 (Int.toNat i0 * 4))) h_3
  )
 else
  (
  J27x4 M C i1 (some (Ad.add a8 (Int.toNat i0 * 4))) h
  )
 ) := by kernel_rfl
theorem e27 : TEq (E 27 [(.int .i64 i0), (.int .i64 i1), (.ptr p2)] h) (r27 mk0 E i0 i1 p2 h) := (EV_eq (P := Try.prog) (T := T0) rfl cf27 _ h).trans (r27 mk0 E i0 i1 p2 h)
theorem J27x4xaux : (forceK tk (.any::vi i1::rep 3 (vp p5::rep 34 [])) fun e => (seqQ (evalE M C k27x1) (endQ [])) .normal ⟨e, h⟩) = (
 atP p5 true fun a25 =>
 gI .i64 (ld1 h (Ad.add a25 1)) true fun i27 =>
 letK (foldMM false i27 [i1]) fun i29 =>
 atP p5 true fun a31 =>
 gI .i64 (ld1 h (Ad.add a31 2)) true fun i33 =>
 letK (foldMM true i33 [i1]) fun i35 =>
 atP p5 true fun a36 =>
 (st1 h (Ad.add a36 1) (.int .i64 i29)).bind fun h_2 =>
 atP p5 true fun a38 =>
 (st1 h_2 (Ad.add a38 2) (.int .i64 i35)).bind fun h_3 =>
 some (.tup [], h_3)
 ) := by kernel_rfl
theorem J27x4xeq : TEq (J27x4 mk0 C i1 p5 h) (J27x4xaux mk0 C i1 p5 h) := join_te
end
noncomputable section
variable (i0x0 i0x1 i0x2 : Int) (b0x3 : Bool) (h : Heap)
theorem r66 : runE M C c66 [(.agg [(.int .i64 i0x0), (.int .i64 i0x1), (.int .i64 i0x2), (.bool b0x3)])] h = (
 letK (decide (i0x1 < 0)) fun b5 =>
 gI .i64 (some (.int .i64 i0x0)) (!b5) fun i8 =>
 letK (decide (i8 = 0)) fun b9 =>
 letK (if b5 = true then true else b9) fun b10 =>
 some ((.bool b10), h)
 ) := by kernel_rfl
theorem e66 : TEq (E 66 [(.agg [(.int .i64 i0x0), (.int .i64 i0x1), (.int .i64 i0x2), (.bool b0x3)])] h) (r66 mk0 E i0x0 i0x1 i0x2 b0x3 h) := (EV_eq (P := Try.prog) (T := T0) rfl cf66 _ h).trans (r66 mk0 E i0x0 i0x1 i0x2 b0x3 h)
end
noncomputable section
variable (s0 : SA) (n0 : Nat) (v1 : AV) (i5 i6 : Int) (h : Heap) (Q : Kont R)
def S34xe0 : St := ⟨vl s0 n0::rep 4 (vi i5::rep 36 []), h⟩
def Q34x10 (M : Mk) (C : Cal) : Kont (AV × Heap) := (blockQ 0 (seqQ (evalE M C k34x9) (seqQ (evalE M C k34x7) (endQ [.tmp 4]))))
def L34x10 : Option R := loopE (evalE M C k34x10) 99 33 ⟨vl s0 n0::.g [] true v1::rep 3 (vi i5::vi i6::rep 35 []), h⟩ Q
def J34x21 : Option R := M R (blockQ 1 (seqQ (evalE M C k34x16) (seqQ (evalE M C k34x15) (roundQ M C k34x10 99 33 Q)))) (vl s0 n0::.g [] true v1::rep 3 (vi i5::vi i6::rep 35 [])) h
theorem r34 : runE M C c34 [(.sl s0 n0), v1] h = (
 (C 70 [(.sl s0 n0), v1] h).bind fun r10 =>
 gI .i64 (some r10.1) true fun i10 =>
 letK (decide (i10 = (-1))) fun b12 =>
 if b12 = true then
  (
  some ((.sl s0 n0), r10.2)
  )
 else
  (
  letK (IntKind.wrap .i64 (i10 + 1)) fun i15 =>
  L34x10 M C s0 n0 v1 i10 i15 r10.2 (Q34x10 M C)
  )
 ) := by kernel_rfl
theorem e34 : TEq (E 34 [(.sl s0 n0), v1] h) (r34 mk0 E s0 n0 v1 h) := (EV_eq (P := Try.prog) (T := T0) rfl cf34 _ h).trans (r34 mk0 E s0 n0 v1 h)
theorem L34x10xaux : rnd M C k34x10 99 33 ⟨vl s0 n0::.g [] true v1::rep 3 (vi i5::vi i6::rep 35 []), h⟩ Q = (
 letK (decide (i6 < (n0 : Int))) fun b19 =>
 if b19 = true then
  (
  chk (true = true → 0 ≤ i6 ∧ i6 < (n0 : Int)) <|
  atP (adP s0) true fun a24 =>
  gCells (ldN h (Ad.add a24 (Int.toNat i6 * 4)) 4) true fun l25 =>
  gI .i64 (l25[0]?) true fun i25x0 =>
  gI .i64 (l25[1]?) true fun i25x1 =>
  gI .i64 (l25[2]?) true fun i25x2 =>
  gB (l25[3]?) true fun b25x3 =>
  fnK v1 fun f28 a28 c28 =>
  (C f28 (a28 ++ [(.agg [(.int .i64 i25x0), (.int .i64 i25x1), (.int .i64 i25x2), (.bool b25x3)])] ++ c28) h).bind fun r28 =>
  gB (some r28.1) true fun b28 =>
  if (!b28) = true then
   (
   chk (true = true → 0 ≤ i5 ∧ i5 < (n0 : Int)) <|
   atP (adP s0) true fun a33 =>
   (stN r28.2 (Ad.add a33 (Int.toNat i5 * 4)) [(.int .i64 i25x0), (.int .i64 i25x1), (.int .i64 i25x2), (.bool b25x3)]).bind fun h_2 =>
   letK (IntKind.wrap .i64 (i5 + 1)) fun i35 =>
   J34x21 M C s0 n0 v1 i35 i6 h_2 Q
   )
  else
   (
   J34x21 M C s0 n0 v1 i5 i6 r28.2 Q
   )
  )
 else
  (
  Q (.exit 0) (S34xe0 s0 n0 i5 h)
  )
 ) := by kernel_rfl
theorem L34x10xeq : TEq (L34x10 mk0 C s0 n0 v1 i5 i6 h Q) (L34x10xaux mk0 C s0 n0 v1 i5 i6 h Q) := loop_te (by kernel_rfl)
theorem J34x21xaux : (forceK tk (vl s0 n0::.g [] true v1::rep 3 (vi i5::vi i6::rep 35 [])) fun e => (blockQ 1 (seqQ (evalE M C k34x16) (seqQ (evalE M C k34x15) (roundQ M C k34x10 99 33 Q)))) .normal ⟨e, h⟩) = (
 letK (IntKind.wrap .i64 (i6 + 1)) fun i21 =>
 L34x10 M C s0 n0 v1 i5 i21 h Q
 ) := by kernel_rfl
theorem J34x21xeq : TEq (J34x21 mk0 C s0 n0 v1 i5 i6 h Q) (J34x21xaux mk0 C s0 n0 v1 i5 i6 h Q) := join_te
theorem X34x10xe0 : Q34x10 M C (.exit 0) (S34xe0 s0 n0 i5 h) = (
 chkC (true = true → 0 ≤ i5 ∧ i5 ≤ (n0 : Int) ∧ esOk h s0 4) <|
 letK (n0 - Int.toNat i5) fun n38 =>
 letK ((adS s0 (Int.toNat i5 * 4) n38) : SA) fun s38 =>
 (clrM h s38 n38 [(.int .i64 0), (.int .i64 0), (.int .i64 0), (.bool false)]).bind fun h_2 =>
 chkC (true = true → 0 ≤ i5 ∧ hiOk h_2 s0 n0 4 i5) <|
 some ((.sl s0 (Int.toNat i5)), h_2)
 ) := by kernel_rfl
end
noncomputable section
def k69x10:=AC.ret
def k69x9:=sq (.mask 16) k69x10
def k69x8:=AC.mask 0
def k69x7:=sq (.cond (.tmp 12)
 (.seq (of [
 o 4 (.move (c 0))]) k69x9)
  (.skip)) k69x8
def k69x12:=AC.ret
def k69x11:=sq (.mask 16) k69x12
def k69x6:=sq (of [
 o 4 (.move (c (-1)))]) k69x11
def k69x5:=AC.mask 67
def k69x4:=sq (.cond (.tmp 11)
 (.seq (.seq (of [
 mv 12 6]) k69x7) k69x6)
  (.skip)) k69x5
def k69x17:=AC.ret
def k69x16:=sq (.mask 16) k69x17
def k69x15:=AC.mask 3
def k69x14:=sq (.cond (.tmp 13)
 (.seq (of [
 o 4 (.move (c 1))]) k69x16)
  (.skip)) k69x15
def k69x22:=AC.ret
def k69x21:=sq (.mask 16) k69x22
def k69x20:=AC.mask 3
def k69x19:=sq (.cond (.tmp 16)
 (.seq (of [
 o 4 (.move (c (-1)))]) k69x21)
  (.skip)) k69x20
def k69x27:=AC.ret
def k69x26:=sq (.mask 16) k69x27
def k69x25:=AC.mask 0
def k69x24:=sq (.cond (.tmp 19)
 (.seq (of [
 o 4 (.move (c 1))]) k69x26)
  (.skip)) k69x25
def k69x29:=AC.ret
def k69x28:=sq (.mask 16) k69x29
def k69x23:=sq (of [
 o 4 (.move (c 0))]) k69x28
def k69x18:=sq (.seq (of [
 mv 17 0,
 mv 18 1,
 bt 19 .gtr 17 18]) k69x24) k69x23
def k69x13:=sq (.seq (of [
 mv 14 0,
 mv 15 1,
 bt 16 .lss 14 15]) k69x19) k69x18
def k69x3:=sq (.seq (of [
 mv 13 6]) k69x14) k69x13
def k69x2:=sq (.seq (of [
 mv 11 5]) k69x4) k69x3
def k69x1:=sq (of [
 mv 9 1,
 o 10 (.call 93 [(t 9)] [(.cell .bool)] (.bool false)),
 mv 6 10]) k69x2
def k69x0:=sq (of [
 mv 7 0,
 o 8 (.call 93 [(t 7)] [(.cell .bool)] (.bool false)),
 mv 5 8]) k69x1
end
noncomputable section
variable (i0 i1 : Int) (h : Heap)
def c69 : AFn := ⟨20, [.tmp 4],
 .seq (of [
 o 4 (.move (c 0))]) k69x0⟩
theorem r69 : runE M C c69 [(.int .i64 i0), (.int .i64 i1)] h = (
 (C 93 [(.int .i64 i0)] h).bind fun r8 =>
 gB (some r8.1) true fun b8 =>
 (C 93 [(.int .i64 i1)] r8.2).bind fun r10 =>
 gB (some r10.1) true fun b10 =>
 if b8 = true then
  (
  if b10 = true then
   (
   some ((.int .i64 0), r10.2)
   )
  else
   (
   some ((.int .i64 (-1)), r10.2)
   )
  )
 else
  (
  if b10 = true then
   (
   some ((.int .i64 1), r10.2)
   )
  else
   (
   letK (decide (i0 < i1)) fun b16 =>
   if b16 = true then
    (
    some ((.int .i64 (-1)), r10.2)
    )
   else
    (
    letK (decide (i1 < i0)) fun b19 =>
    if b19 = true then
     (
     some ((.int .i64 1), r10.2)
     )
    else
     (
     some ((.int .i64 0), r10.2)
     )
    )
   )
  )
 ) := by kernel_rfl
theorem cf69 : cFn Try.prog 69 = some c69 := by kernel_rfl
theorem e69 : TEq (E 69 [(.int .i64 i0), (.int .i64 i1)] h) (r69 mk0 E i0 i1 h) := (EV_eq (P := Try.prog) (T := T0) rfl cf69 _ h).trans (r69 mk0 E i0 i1 h)
end
noncomputable section
def k93x2:=AC.ret
def k93x1:=sq (.mask 4) k93x2
def k93x0:=sq (of [
 mv 3 0,
 mv 4 0,
 bt 5 .neq 3 4,
 mv 2 5]) k93x1
end
noncomputable section
variable (i0 : Int) (h : Heap)
def c93 : AFn := ⟨6, [.tmp 2],
 .seq (of [
 o 2 (.move (.c (.bool false)))]) k93x0⟩
theorem r93 : runE M C c93 [(.int .i64 i0)] h = (
 letK (!decide (i0 = i0)) fun b5 =>
 some ((.bool b5), h)
 ) := by kernel_rfl
theorem cf93 : cFn Try.prog 93 = some c93 := by kernel_rfl
theorem e93 : TEq (E 93 [(.int .i64 i0)] h) (r93 mk0 E i0 h) := (EV_eq (P := Try.prog) (T := T0) rfl cf93 _ h).trans (r93 mk0 E i0 h)
end
noncomputable section
variable (i0x0 i0x1 i0x2 : Int) (b0x3 : Bool) (i1x0 i1x1 i1x2 : Int) (b1x3 : Bool) (h : Heap)
theorem r68 : runE M C c68 [(.agg [(.int .i64 i0x0), (.int .i64 i0x1), (.int .i64 i0x2), (.bool b0x3)]), (.agg [(.int .i64 i1x0), (.int .i64 i1x1), (.int .i64 i1x2), (.bool b1x3)])] h = (
 (C 69 [(.int .i64 i0x1), (.int .i64 i1x1)] h).bind fun r9 =>
 gI .i64 (some r9.1) true fun i9 =>
 some ((.int .i64 i9), r9.2)
 ) := by kernel_rfl
theorem e68 : TEq (E 68 [(.agg [(.int .i64 i0x0), (.int .i64 i0x1), (.int .i64 i0x2), (.bool b0x3)]), (.agg [(.int .i64 i1x0), (.int .i64 i1x1), (.int .i64 i1x2), (.bool b1x3)])] h) (r68 mk0 E i0x0 i0x1 i0x2 b0x3 i1x0 i1x1 i1x2 b1x3 h) := (EV_eq (P := Try.prog) (T := T0) rfl cf68 _ h).trans (r68 mk0 E i0x0 i0x1 i0x2 b0x3 i1x0 i1x1 i1x2 b1x3 h)
end
noncomputable section
variable (s0 : SA) (n0 : Nat) (i1 i2 : Int) (v3 : AV) (i8 i9 : Int) (h : Heap) (Q : Kont R)
def S97xe0 : St := ⟨(rep 53 []), h⟩
def S97xe2 : St := ⟨vl s0 n0::vi i1::vi i2::.g [] true v3::rep 4 (vi i8::rep 44 []), h⟩
def Q97x2 (M : Mk) (C : Cal) : Kont (AV × Heap) := (blockQ 0 (seqQ (evalE M C k97x1) (endQ [])))
def L97x2 : Option R := loopE (evalE M C k97x2) 271 0 ⟨vl s0 n0::vi i1::vi i2::.g [] true v3::rep 4 (vi i8::rep 44 []), h⟩ Q
def Q97x11 : Kont R := (blockQ 2 (seqQ (evalE M C k97x10) (blockQ 1 (seqQ (evalE M C k97x8) (seqQ (evalE M C k97x7) (roundQ M C k97x2 271 0 Q))))))
def L97x11 : Option R := loopE (evalE M C k97x11) 783 271 ⟨vl s0 n0::vi i1::vi i2::.g [] true v3::rep 4 (vi i8::vi i9::rep 43 []), h⟩ Q
theorem r97 : runE M C c97 [(.sl s0 n0), (.int .i64 i1), (.int .i64 i2), v3] h = (
 letK (IntKind.wrap .i64 (i1 + 1)) fun i11 =>
 L97x2 M C s0 n0 i1 i2 v3 i11 h (Q97x2 M C)
 ) := by kernel_rfl
theorem e97 : TEq (E 97 [(.sl s0 n0), (.int .i64 i1), (.int .i64 i2), v3] h) (r97 mk0 E s0 n0 i1 i2 v3 h) := (EV_eq (P := Try.prog) (T := T0) rfl cf97 _ h).trans (r97 mk0 E s0 n0 i1 i2 v3 h)
theorem L97x2xaux : rnd M C k97x2 271 0 ⟨vl s0 n0::vi i1::vi i2::.g [] true v3::rep 4 (vi i8::rep 44 []), h⟩ Q = (
 letK (decide (i8 < i2)) fun b14 =>
 if b14 = true then
  (
  L97x11 M C s0 n0 i1 i2 v3 i8 i8 h (Q97x11 M C Q)
  )
 else
  (
  Q (.exit 0) (S97xe0 h)
  )
 ) := by kernel_rfl
theorem L97x2xeq : TEq (L97x2 mk0 C s0 n0 i1 i2 v3 i8 h Q) (L97x2xaux mk0 C s0 n0 i1 i2 v3 i8 h Q) := loop_te (by kernel_rfl)
theorem L97x11xaux : rnd M C k97x11 783 271 ⟨vl s0 n0::vi i1::vi i2::.g [] true v3::rep 4 (vi i8::vi i9::rep 43 []), h⟩ Q = (
 letK (decide (i1 < i9)) fun b20 =>
 chk (b20 = true → 0 ≤ i9 ∧ i9 < (n0 : Int)) <|
 atP (adP s0) b20 fun a25 =>
 atP (some (Ad.add a25 (Int.toNat i9 * 4))) b20 fun a26 =>
 gCells (ldN h a26 4) b20 fun l26 =>
 gI .i64 (l26[0]?) b20 fun i26x0 =>
 gI .i64 (l26[1]?) b20 fun i26x1 =>
 gI .i64 (l26[2]?) b20 fun i26x2 =>
 gB (l26[3]?) b20 fun b26x3 =>
 letK (IntKind.wrap .i64 (i9 - 1)) fun i29 =>
 chk (b20 = true → 0 ≤ i29 ∧ i29 < (n0 : Int)) <|
 atP (adP s0) b20 fun a30 =>
 atP (some (Ad.add a30 (Int.toNat i29 * 4))) b20 fun a31 =>
 gCells (ldN h a31 4) b20 fun l31 =>
 gI .i64 (l31[0]?) b20 fun i31x0 =>
 gI .i64 (l31[1]?) b20 fun i31x1 =>
 gI .i64 (l31[2]?) b20 fun i31x2 =>
 gB (l31[3]?) b20 fun b31x3 =>
 fnK v3 fun f32 a32 c32 =>
 (callO b20 (C f32 (a32 ++ [(.agg [(.int .i64 i26x0), (.int .i64 i26x1), (.int .i64 i26x2), (.bool b26x3)]), (.agg [(.int .i64 i31x0), (.int .i64 i31x1), (.int .i64 i31x2), (.bool b31x3)])] ++ c32) h) (.int .i64 0) h).bind fun r32 =>
 gI .i64 (some r32.1) b20 fun i32 =>
 letK (decide (i32 < 0)) fun b33 =>
 letK (if b20 = true then b33 else false) fun b34 =>
 if b34 = true then
  (
  letK (IntKind.wrap .i64 (i9 - 1)) fun i41 =>
  letK (IntKind.wrap .i64 (i9 - 1)) fun i44 =>
  chk (true = true → 0 ≤ i44 ∧ i44 < (n0 : Int)) <|
  atP (adP s0) true fun a45 =>
  gCells (ldN r32.2 (Ad.add a45 (Int.toNat i44 * 4)) 4) true fun l46 =>
  gI .i64 (l46[0]?) true fun i46x0 =>
  gI .i64 (l46[1]?) true fun i46x1 =>
  gI .i64 (l46[2]?) true fun i46x2 =>
  gB (l46[3]?) true fun b46x3 =>
  chk (true = true → 0 ≤ i9 ∧ i9 < (n0 : Int)) <|
  atP (adP s0) true fun a49 =>
  gCells (ldN r32.2 (Ad.add a49 (Int.toNat i9 * 4)) 4) true fun l50 =>
  gI .i64 (l50[0]?) true fun i50x0 =>
  gI .i64 (l50[1]?) true fun i50x1 =>
  gI .i64 (l50[2]?) true fun i50x2 =>
  gB (l50[3]?) true fun b50x3 =>
  chk (true = true → 0 ≤ i9 ∧ i9 < (n0 : Int)) <|
  atP (adP s0) true fun a51 =>
  (stN r32.2 (Ad.add a51 (Int.toNat i9 * 4)) [(.int .i64 i46x0), (.int .i64 i46x1), (.int .i64 i46x2), (.bool b46x3)]).bind fun h_2 =>
  chk (true = true → 0 ≤ i41 ∧ i41 < (n0 : Int)) <|
  atP (adP s0) true fun a52 =>
  (stN h_2 (Ad.add a52 (Int.toNat i41 * 4)) [(.int .i64 i50x0), (.int .i64 i50x1), (.int .i64 i50x2), (.bool b50x3)]).bind fun h_3 =>
  letK (IntKind.wrap .i64 (i9 - 1)) fun i36 =>
  L97x11 M C s0 n0 i1 i2 v3 i8 i36 h_3 Q
  )
 else
  (
  Q (.exit 2) (S97xe2 s0 n0 i1 i2 v3 i8 r32.2)
  )
 ) := by kernel_rfl
theorem L97x11xeq : TEq (L97x11 mk0 C s0 n0 i1 i2 v3 i8 i9 h Q) (L97x11xaux mk0 C s0 n0 i1 i2 v3 i8 i9 h Q) := loop_te (by kernel_rfl)
theorem X97x2xe0 : Q97x2 M C (.exit 0) (S97xe0 h) = (
 some (.tup [], h)
 ) := by kernel_rfl
theorem X97x11xe2 : Q97x11 M C Q (.exit 2) (S97xe2 s0 n0 i1 i2 v3 i8 h) = (
 letK (IntKind.wrap .i64 (i8 + 1)) fun i16 =>
 L97x2 M C s0 n0 i1 i2 v3 i16 h Q
 ) := by kernel_rfl
end
noncomputable section
def k102x6:=AC.exit 0
def k102x5:=AC.mask 1039
def k102x4:=sq (.cond (.tmp 13)
 (.skip)
 (.seq (.mask 0) k102x6)) k102x5
def k102x8:=AC.mask 1039
def k102x7:=of [
 mv 14 10,
 bc 15 .add 14 1,
 mv 10 15]
def k102x3:=sq (.seq (.block 1 (of [
 mv 16 0,
 mv 17 1,
 mv 18 10,
 bt 19 .add 17 18,
 mv 20 0,
 mv 21 2,
 mv 22 10,
 bt 23 .add 21 22,
 mv 24 0,
 mv 25 2,
 mv 26 10,
 bt 27 .add 25 26,
 ia 28 4 24 27,
 o 29 (.load (.agg [(.int .i64), (.int .i64), (.int .i64), .bool]) (t 28)),
 mv 30 0,
 mv 31 1,
 mv 32 10,
 bt 33 .add 31 32,
 ia 34 4 30 33,
 o 35 (.load (.agg [(.int .i64), (.int .i64), (.int .i64), .bool]) (t 34)),
 ia 36 4 16 19,
 u (.store 4 (t 36) (t 29)),
 ia 37 4 20 23,
 u (.store 4 (t 37) (t 35))])) k102x8) k102x7
def k102x2:=sq (.seq (of [
 mv 11 10,
 mv 12 3,
 bt 13 .lss 11 12]) k102x4) k102x3
def k102x1:=AC.mask 0
def k102x0:=sq (.block 0 (.loop 1039 0 k102x2)) k102x1
end
noncomputable section
variable (s0 : SA) (n0 : Nat) (i1 i2 i3 : Int) (v4 : AV) (i10 : Int) (h : Heap) (Q : Kont R)
def c102 : AFn := ⟨38, [],
 .seq (of [
 o 10 (.move (c 0))]) k102x0⟩
def S102xe0 : St := ⟨(rep 38 []), h⟩
def Q102x2 (M : Mk) (C : Cal) : Kont (AV × Heap) := (blockQ 0 (seqQ (evalE M C k102x1) (endQ [])))
def L102x2 : Option R := loopE (evalE M C k102x2) 1039 0 ⟨vl s0 n0::vi i1::vi i2::vi i3::rep 6 (vi i10::rep 27 []), h⟩ Q
theorem r102 : runE M C c102 [(.sl s0 n0), (.int .i64 i1), (.int .i64 i2), (.int .i64 i3), v4] h = (
 L102x2 M C s0 n0 i1 i2 i3 0 h (Q102x2 M C)
 ) := by kernel_rfl
theorem cf102 : cFn Try.prog 102 = some c102 := by kernel_rfl
theorem e102 : TEq (E 102 [(.sl s0 n0), (.int .i64 i1), (.int .i64 i2), (.int .i64 i3), v4] h) (r102 mk0 E s0 n0 i1 i2 i3 v4 h) := (EV_eq (P := Try.prog) (T := T0) rfl cf102 _ h).trans (r102 mk0 E s0 n0 i1 i2 i3 v4 h)
theorem L102x2xaux : rnd M C k102x2 1039 0 ⟨vl s0 n0::vi i1::vi i2::vi i3::rep 6 (vi i10::rep 27 []), h⟩ Q = (
 letK (decide (i10 < i3)) fun b13 =>
 if b13 = true then
  (
  letK (IntKind.wrap .i64 (i1 + i10)) fun i19 =>
  letK (IntKind.wrap .i64 (i2 + i10)) fun i23 =>
  letK (IntKind.wrap .i64 (i2 + i10)) fun i27 =>
  chk (true = true → 0 ≤ i27 ∧ i27 < (n0 : Int)) <|
  atP (adP s0) true fun a28 =>
  gCells (ldN h (Ad.add a28 (Int.toNat i27 * 4)) 4) true fun l29 =>
  gI .i64 (l29[0]?) true fun i29x0 =>
  gI .i64 (l29[1]?) true fun i29x1 =>
  gI .i64 (l29[2]?) true fun i29x2 =>
  gB (l29[3]?) true fun b29x3 =>
  letK (IntKind.wrap .i64 (i1 + i10)) fun i33 =>
  chk (true = true → 0 ≤ i33 ∧ i33 < (n0 : Int)) <|
  atP (adP s0) true fun a34 =>
  gCells (ldN h (Ad.add a34 (Int.toNat i33 * 4)) 4) true fun l35 =>
  gI .i64 (l35[0]?) true fun i35x0 =>
  gI .i64 (l35[1]?) true fun i35x1 =>
  gI .i64 (l35[2]?) true fun i35x2 =>
  gB (l35[3]?) true fun b35x3 =>
  chk (true = true → 0 ≤ i19 ∧ i19 < (n0 : Int)) <|
  atP (adP s0) true fun a36 =>
  (stN h (Ad.add a36 (Int.toNat i19 * 4)) [(.int .i64 i29x0), (.int .i64 i29x1), (.int .i64 i29x2), (.bool b29x3)]).bind fun h_2 =>
  chk (true = true → 0 ≤ i23 ∧ i23 < (n0 : Int)) <|
  atP (adP s0) true fun a37 =>
  (stN h_2 (Ad.add a37 (Int.toNat i23 * 4)) [(.int .i64 i35x0), (.int .i64 i35x1), (.int .i64 i35x2), (.bool b35x3)]).bind fun h_3 =>
  letK (IntKind.wrap .i64 (i10 + 1)) fun i15 =>
  L102x2 M C s0 n0 i1 i2 i3 i15 h_3 Q
  )
 else
  (
  Q (.exit 0) (S102xe0 h)
  )
 ) := by kernel_rfl
theorem L102x2xeq : TEq (L102x2 mk0 C s0 n0 i1 i2 i3 i10 h Q) (L102x2xaux mk0 C s0 n0 i1 i2 i3 i10 h Q) := loop_te (by kernel_rfl)
theorem X102x2xe0 : Q102x2 M C (.exit 0) (S102xe0 h) = (
 some (.tup [], h)
 ) := by kernel_rfl
end
noncomputable section
def k100x8:=AC.exit 0
def k100x7:=AC.mask 3093
def k100x6:=sq (.cond (.tmp 20)
 (.skip)
 (.seq (.mask 1045) k100x8)) k100x7
def k100x12:=of [
 mv 32 10,
 mv 33 11,
 bt 34 .sub 32 33,
 mv 10 34]
def k100x13:=of [
 mv 47 11,
 mv 48 10,
 bt 49 .sub 47 48,
 mv 11 49]
def k100x11:=AC.join 3093
def k100x10:=sq (.cond (.tmp 23)
 (.seq (of [
 mv 24 0,
 mv 25 2,
 mv 26 10,
 bt 27 .sub 25 26,
 mv 28 2,
 mv 29 11,
 mv 30 4,
 o 31 (.call 102 [(t 24), (t 27), (t 28), (t 29), (t 30)] [] .opq)]) k100x12)
  (.seq (of [
 mv 35 0,
 mv 36 2,
 mv 37 10,
 bt 38 .sub 36 37,
 mv 39 2,
 mv 40 11,
 bt 41 .add 39 40,
 mv 42 10,
 bt 43 .sub 41 42,
 mv 44 10,
 mv 45 4,
 o 46 (.call 102 [(t 35), (t 38), (t 43), (t 44), (t 45)] [] .opq)]) k100x13)) k100x11
def k100x9:=AC.mask 3093
def k100x5:=sq (.block 1 (.seq (of [
 mv 21 10,
 mv 22 11,
 bt 23 .gtr 21 22]) k100x10)) k100x9
def k100x4:=sq (.seq (of [
 mv 18 10,
 mv 19 11,
 bt 20 .neq 18 19]) k100x6) k100x5
def k100x3:=AC.mask 1045
def k100x2:=of [
 mv 50 0,
 mv 51 2,
 mv 52 10,
 bt 53 .sub 51 52,
 mv 54 2,
 mv 55 10,
 mv 56 4,
 o 57 (.call 102 [(t 50), (t 53), (t 54), (t 55), (t 56)] [] .opq)]
def k100x1:=sq (.seq (.block 0 (.loop 3093 1045 k100x4)) k100x3) k100x2
def k100x0:=sq (of [
 mv 15 3,
 mv 16 2,
 bt 17 .sub 15 16,
 mv 11 17]) k100x1
end
noncomputable section
variable (s0 : SA) (n0 : Nat) (i1 i2 i3 : Int) (v4 : AV) (i10 i11 : Int) (h : Heap) (Q : Kont R)
def c100 : AFn := ⟨58, [],
 .seq (of [
 mv 12 2,
 mv 13 1,
 bt 14 .sub 12 13,
 mv 10 14]) k100x0⟩
def S100xe0 : St := ⟨vl s0 n0::.any::vi i2::.any::.g [] true v4::rep 5 (vi i10::rep 47 []), h⟩
def Q100x4 (M : Mk) (C : Cal) : Kont (AV × Heap) := (blockQ 0 (seqQ (evalE M C k100x3) (seqQ (evalE M C k100x2) (endQ []))))
def L100x4 : Option R := loopE (evalE M C k100x4) 3093 1045 ⟨vl s0 n0::.any::vi i2::.any::.g [] true v4::rep 5 (vi i10::vi i11::rep 46 []), h⟩ Q
def J100x14 : Option R := M R (blockQ 1 (seqQ (evalE M C k100x9) (roundQ M C k100x4 3093 1045 Q))) (vl s0 n0::.any::vi i2::.any::.g [] true v4::rep 5 (vi i10::vi i11::rep 46 [])) h
theorem r100 : runE M C c100 [(.sl s0 n0), (.int .i64 i1), (.int .i64 i2), (.int .i64 i3), v4] h = (
 letK (IntKind.wrap .i64 (i2 - i1)) fun i14 =>
 letK (IntKind.wrap .i64 (i3 - i2)) fun i17 =>
 L100x4 M C s0 n0 i2 v4 i14 i17 h (Q100x4 M C)
 ) := by kernel_rfl
theorem cf100 : cFn Try.prog 100 = some c100 := by kernel_rfl
theorem e100 : TEq (E 100 [(.sl s0 n0), (.int .i64 i1), (.int .i64 i2), (.int .i64 i3), v4] h) (r100 mk0 E s0 n0 i1 i2 i3 v4 h) := (EV_eq (P := Try.prog) (T := T0) rfl cf100 _ h).trans (r100 mk0 E s0 n0 i1 i2 i3 v4 h)
theorem L100x4xaux : rnd M C k100x4 3093 1045 ⟨vl s0 n0::.any::vi i2::.any::.g [] true v4::rep 5 (vi i10::vi i11::rep 46 []), h⟩ Q = (
 letK (!decide (i10 = i11)) fun b20 =>
 if b20 = true then
  (
  letK (decide (i11 < i10)) fun b23 =>
  if b23 = true then
   (
   letK (IntKind.wrap .i64 (i2 - i10)) fun i27 =>
   (C 102 [(.sl s0 n0), (.int .i64 i27), (.int .i64 i2), (.int .i64 i11), v4] h).bind fun r31 =>
   gT 0 r31.1 true fun u31 =>
   letK (IntKind.wrap .i64 (i10 - i11)) fun i34 =>
   J100x14 M C s0 n0 i2 v4 i34 i11 r31.2 Q
   )
  else
   (
   letK (IntKind.wrap .i64 (i2 - i10)) fun i38 =>
   letK (IntKind.wrap .i64 (i2 + i11)) fun i41 =>
   letK (IntKind.wrap .i64 (i41 - i10)) fun i43 =>
   (C 102 [(.sl s0 n0), (.int .i64 i38), (.int .i64 i43), (.int .i64 i10), v4] h).bind fun r46 =>
   gT 0 r46.1 true fun u46 =>
   letK (IntKind.wrap .i64 (i11 - i10)) fun i49 =>
   J100x14 M C s0 n0 i2 v4 i10 i49 r46.2 Q
   )
  )
 else
  (
  Q (.exit 0) (S100xe0 s0 n0 i2 v4 i10 h)
  )
 ) := by kernel_rfl
theorem L100x4xeq : TEq (L100x4 mk0 C s0 n0 i2 v4 i10 i11 h Q) (L100x4xaux mk0 C s0 n0 i2 v4 i10 i11 h Q) := loop_te (by kernel_rfl)
theorem J100x14xaux : (forceK tk (vl s0 n0::.any::vi i2::.any::.g [] true v4::rep 5 (vi i10::vi i11::rep 46 [])) fun e => (blockQ 1 (seqQ (evalE M C k100x9) (roundQ M C k100x4 3093 1045 Q))) .normal ⟨e, h⟩) = (
 L100x4 M C s0 n0 i2 v4 i10 i11 h Q
 ) := by kernel_rfl
theorem J100x14xeq : TEq (J100x14 mk0 C s0 n0 i2 v4 i10 i11 h Q) (J100x14xaux mk0 C s0 n0 i2 v4 i10 i11 h Q) := join_te
theorem X100x4xe0 : Q100x4 M C (.exit 0) (S100xe0 s0 n0 i2 v4 i10 h) = (
 letK (IntKind.wrap .i64 (i2 - i10)) fun i53 =>
 (C 102 [(.sl s0 n0), (.int .i64 i53), (.int .i64 i2), (.int .i64 i10), v4] h).bind fun r57 =>
 gT 0 r57.1 true fun u57 =>
 some (.tup [], r57.2)
 ) := by kernel_rfl
end
noncomputable section
def k98x11:=AC.exit 0
def k98x10:=AC.mask 3091
def k98x9:=sq (.cond (.tmp 33)
 (.skip)
 (.seq (.mask 1027) k98x11)) k98x10
def k98x15:=AC.join 3091
def k98x14:=sq (.cond (.tmp 50)
 (of [
 mv 51 12,
 bc 52 .add 51 1,
 mv 10 52])
  (of [
 mv 53 12,
 mv 11 53])) k98x15
def k98x13:=sq (of [
 mv 40 4,
 mv 41 0,
 mv 42 12,
 ia 43 4 41 42,
 o 44 (.load (.agg [(.int .i64), (.int .i64), (.int .i64), .bool]) (t 43)),
 mv 45 0,
 mv 46 1,
 ia 47 4 45 46,
 o 48 (.load (.agg [(.int .i64), (.int .i64), (.int .i64), .bool]) (t 47)),
 o 49 (.callV (t 40) [(t 44), (t 48)] [I] (.int .i64 0)),
 bc 50 .lss 49 0]) k98x14
def k98x12:=AC.mask 3091
def k98x8:=sq (.block 1 (.seq (of [
 mv 34 10,
 mv 35 11,
 bt 36 .add 34 35,
 o 37 (.conv .u64 (t 36)),
 o 38 (.bin .other .shr (t 37) (.c (.int .u64 1))),
 o 39 (.conv .i64 (t 38)),
 mv 12 39]) k98x13)) k98x12
def k98x7:=sq (.seq (of [
 mv 31 10,
 mv 32 11,
 bt 33 .lss 31 32]) k98x9) k98x8
def k98x6:=AC.mask 1027
def k98x24:=AC.exit 2
def k98x23:=AC.mask 9217
def k98x22:=sq (.cond (.tmp 58)
 (.skip)
 (.seq (.mask 0) k98x24)) k98x23
def k98x26:=AC.mask 9217
def k98x25:=of [
 mv 59 13,
 bc 60 .add 59 1,
 mv 13 60]
def k98x21:=sq (.seq (.block 3 (of [
 mv 61 0,
 mv 62 13,
 mv 63 0,
 mv 64 13,
 bc 65 .add 64 1,
 mv 66 0,
 mv 67 13,
 bc 68 .add 67 1,
 ia 69 4 66 68,
 o 70 (.load (.agg [(.int .i64), (.int .i64), (.int .i64), .bool]) (t 69)),
 mv 71 0,
 mv 72 13,
 ia 73 4 71 72,
 o 74 (.load (.agg [(.int .i64), (.int .i64), (.int .i64), .bool]) (t 73)),
 ia 75 4 61 62,
 u (.store 4 (t 75) (t 70)),
 ia 76 4 63 65,
 u (.store 4 (t 76) (t 74))])) k98x26) k98x25
def k98x20:=sq (.seq (of [
 mv 55 13,
 mv 56 10,
 bc 57 .sub 56 1,
 bt 58 .lss 55 57]) k98x22) k98x21
def k98x19:=AC.mask 0
def k98x18:=sq (.block 2 (.loop 9217 0 k98x20)) k98x19
def k98x27:=AC.ret
def k98x17:=sq (.mask 0) k98x27
def k98x5:=sq (.seq (of [
 mv 54 1,
 mv 13 54]) k98x18) k98x17
def k98x4:=sq (.seq (.block 0 (.loop 3091 1027 k98x7)) k98x6) k98x5
def k98x3:=sq (of [
 mv 30 3,
 mv 11 30]) k98x4
def k98x2:=AC.mask 31
def k98x1:=sq (.cond (.tmp 28)
 (.seq (of [
 mv 29 2,
 mv 10 29]) k98x3)
  (.skip)) k98x2
def k98x39:=AC.exit 4
def k98x38:=AC.mask 49173
def k98x37:=sq (.cond (.tmp 85)
 (.skip)
 (.seq (.mask 16389) k98x39)) k98x38
def k98x43:=AC.join 49173
def k98x42:=sq (.cond (.tmp 103)
 (of [
 mv 104 16,
 bc 105 .add 104 1,
 mv 14 105])
  (of [
 mv 106 16,
 mv 15 106])) k98x43
def k98x41:=sq (of [
 mv 92 4,
 mv 93 0,
 mv 94 2,
 ia 95 4 93 94,
 o 96 (.load (.agg [(.int .i64), (.int .i64), (.int .i64), .bool]) (t 95)),
 mv 97 0,
 mv 98 16,
 ia 99 4 97 98,
 o 100 (.load (.agg [(.int .i64), (.int .i64), (.int .i64), .bool]) (t 99)),
 o 101 (.callV (t 92) [(t 96), (t 100)] [I] (.int .i64 0)),
 bc 102 .lss 101 0,
 o 103 (.un .not (t 102))]) k98x42
def k98x40:=AC.mask 49173
def k98x36:=sq (.block 5 (.seq (of [
 mv 86 14,
 mv 87 15,
 bt 88 .add 86 87,
 o 89 (.conv .u64 (t 88)),
 o 90 (.bin .other .shr (t 89) (.c (.int .u64 1))),
 o 91 (.conv .i64 (t 90)),
 mv 16 91]) k98x41)) k98x40
def k98x35:=sq (.seq (of [
 mv 83 14,
 mv 84 15,
 bt 85 .lss 83 84]) k98x37) k98x36
def k98x34:=AC.mask 16389
def k98x52:=AC.exit 6
def k98x51:=AC.mask 147457
def k98x50:=sq (.cond (.tmp 110)
 (.skip)
 (.seq (.mask 0) k98x52)) k98x51
def k98x54:=AC.mask 147457
def k98x53:=of [
 mv 111 17,
 bc 112 .sub 111 1,
 mv 17 112]
def k98x49:=sq (.seq (.block 7 (of [
 mv 113 0,
 mv 114 17,
 mv 115 0,
 mv 116 17,
 bc 117 .sub 116 1,
 mv 118 0,
 mv 119 17,
 bc 120 .sub 119 1,
 ia 121 4 118 120,
 o 122 (.load (.agg [(.int .i64), (.int .i64), (.int .i64), .bool]) (t 121)),
 mv 123 0,
 mv 124 17,
 ia 125 4 123 124,
 o 126 (.load (.agg [(.int .i64), (.int .i64), (.int .i64), .bool]) (t 125)),
 ia 127 4 113 114,
 u (.store 4 (t 127) (t 122)),
 ia 128 4 115 117,
 u (.store 4 (t 128) (t 126))])) k98x54) k98x53
def k98x48:=sq (.seq (of [
 mv 108 17,
 mv 109 14,
 bt 110 .gtr 108 109]) k98x50) k98x49
def k98x47:=AC.mask 0
def k98x46:=sq (.block 6 (.loop 147457 0 k98x48)) k98x47
def k98x55:=AC.ret
def k98x45:=sq (.mask 0) k98x55
def k98x33:=sq (.seq (of [
 mv 107 2,
 mv 17 107]) k98x46) k98x45
def k98x32:=sq (.seq (.block 4 (.loop 49173 16389 k98x35)) k98x34) k98x33
def k98x31:=sq (of [
 mv 82 2,
 mv 15 82]) k98x32
def k98x30:=AC.mask 31
def k98x29:=sq (.cond (.tmp 80)
 (.seq (of [
 mv 81 1,
 mv 14 81]) k98x31)
  (.skip)) k98x30
def k98x62:=of [
 mv 144 18,
 mv 21 144]
def k98x63:=of [
 mv 146 2,
 mv 21 146]
def k98x61:=AC.join 3932191
def k98x60:=sq (.cond (.tmp 140)
 (.seq (of [
 mv 141 19,
 mv 142 3,
 bt 143 .sub 141 142,
 mv 20 143]) k98x62)
  (.seq (of [
 mv 145 1,
 mv 20 145]) k98x63)) k98x61
def k98x72:=AC.exit 8
def k98x71:=AC.mask 8126495
def k98x70:=sq (.cond (.tmp 151)
 (.skip)
 (.seq (.mask 1835039) k98x72)) k98x71
def k98x76:=AC.join 8126495
def k98x75:=sq (.cond (.tmp 171)
 (of [
 mv 172 23,
 bc 173 .add 172 1,
 mv 20 173])
  (of [
 mv 174 23,
 mv 21 174])) k98x76
def k98x74:=sq (of [
 mv 158 4,
 mv 159 0,
 mv 160 22,
 mv 161 23,
 bt 162 .sub 160 161,
 ia 163 4 159 162,
 o 164 (.load (.agg [(.int .i64), (.int .i64), (.int .i64), .bool]) (t 163)),
 mv 165 0,
 mv 166 23,
 ia 167 4 165 166,
 o 168 (.load (.agg [(.int .i64), (.int .i64), (.int .i64), .bool]) (t 167)),
 o 169 (.callV (t 158) [(t 164), (t 168)] [I] (.int .i64 0)),
 bc 170 .lss 169 0,
 o 171 (.un .not (t 170))]) k98x75
def k98x73:=AC.mask 8126495
def k98x69:=sq (.block 9 (.seq (of [
 mv 152 20,
 mv 153 21,
 bt 154 .add 152 153,
 o 155 (.conv .u64 (t 154)),
 o 156 (.bin .other .shr (t 155) (.c (.int .u64 1))),
 o 157 (.conv .i64 (t 156)),
 mv 23 157]) k98x74)) k98x73
def k98x68:=sq (.seq (of [
 mv 149 20,
 mv 150 21,
 bt 151 .lss 149 150]) k98x70) k98x69
def k98x67:=AC.mask 1835039
def k98x81:=AC.join 18087963
def k98x80:=sq (.cond (.tmp 185)
 (of [
 mv 186 0,
 mv 187 20,
 mv 188 2,
 mv 189 24,
 mv 190 4,
 o 191 (.call 100 [(t 186), (t 187), (t 188), (t 189), (t 190)] [] .opq)])
  (.skip)) k98x81
def k98x85:=AC.join 17039385
def k98x84:=sq (.cond (.tmp 199)
 (of [
 mv 200 0,
 mv 201 1,
 mv 202 20,
 mv 203 18,
 mv 204 4,
 o 205 (.call 98 [(t 200), (t 201), (t 202), (t 203), (t 204)] [] .opq)])
  (.skip)) k98x85
def k98x88:=AC.join 0
def k98x87:=sq (.cond (.tmp 213)
 (of [
 mv 214 0,
 mv 215 18,
 mv 216 24,
 mv 217 3,
 mv 218 4,
 o 219 (.call 98 [(t 214), (t 215), (t 216), (t 217), (t 218)] [] .opq)])
  (.skip)) k98x88
def k98x83:=sq (ot [
 mv 206 18,
 mv 207 24,
 bt 208 .lss 206 207,
 mv 209 208,
 g 210 209 (.move (t 24)),
 g 211 209 (.move (t 3)),
 g 212 209 (.bin .other .lss (t 210) (t 211)),
 o 213 (.pick (t 209) (t 212) (.c (.bool false)))]) k98x87
def k98x79:=sq (.seq (ot [
 mv 192 1,
 mv 193 20,
 bt 194 .lss 192 193,
 mv 195 194,
 g 196 195 (.move (t 20)),
 g 197 195 (.move (t 18)),
 g 198 195 (.bin .other .lss (t 196) (t 197)),
 o 199 (.pick (t 195) (t 198) (.c (.bool false)))]) k98x84) k98x83
def k98x78:=sq (.seq (ot [
 mv 178 20,
 mv 179 2,
 bt 180 .lss 178 179,
 mv 181 180,
 g 182 181 (.move (t 2)),
 g 183 181 (.move (t 24)),
 g 184 181 (.bin .other .lss (t 182) (t 183)),
 o 185 (.pick (t 181) (t 184) (.c (.bool false)))]) k98x80) k98x79
def k98x66:=sq (of [
 mv 175 19,
 mv 176 20,
 bt 177 .sub 175 176,
 mv 24 177]) k98x78
def k98x65:=sq (.seq (.block 8 (.loop 8126495 1835039 k98x68)) k98x67) k98x66
def k98x59:=sq (of [
 mv 147 19,
 bc 148 .sub 147 1,
 mv 22 148]) k98x65
def k98x58:=sq (.seq (of [
 mv 138 2,
 mv 139 18,
 bt 140 .gtr 138 139]) k98x60) k98x59
def k98x57:=sq (of [
 o 20 (.move (c 0)),
 o 21 (.move (c 0))]) k98x58
def k98x56:=sq (of [
 mv 135 18,
 mv 136 2,
 bt 137 .add 135 136,
 mv 19 137]) k98x57
def k98x28:=sq (of [
 mv 129 1,
 mv 130 3,
 bt 131 .add 129 130,
 o 132 (.conv .u64 (t 131)),
 o 133 (.bin .other .shr (t 132) (.c (.int .u64 1))),
 o 134 (.conv .i64 (t 133)),
 mv 18 134]) k98x56
def k98x0:=sq (.seq (of [
 mv 77 3,
 mv 78 2,
 bt 79 .sub 77 78,
 bc 80 .eql 79 1]) k98x29) k98x28
end
noncomputable section
variable (s0 : SA) (n0 : Nat) (i1 i2 i3 : Int) (v4 : AV) (i10 i11 i13 i14 i15 i17 i18 i19 i20 i21 i22 i24 : Int) (h : Heap) (Q : Kont R)
def c98 : AFn := ⟨220, [],
 .seq (.seq (of [
 mv 25 2,
 mv 26 1,
 bt 27 .sub 25 26,
 bc 28 .eql 27 1]) k98x1) k98x0⟩
def S98xe0 : St := ⟨vl s0 n0::vi i1::rep 8 (vi i10::rep 209 []), h⟩
def S98xe4 : St := ⟨vl s0 n0::.any::vi i2::rep 11 (vi i14::rep 205 []), h⟩
def S98xe8 : St := ⟨vl s0 n0::vi i1::vi i2::vi i3::.g [] true v4::rep 13 (vi i18::vi i19::vi i20::rep 199 []), h⟩
def S98xe2 : St := ⟨(rep 220 []), h⟩
def S98xe6 : St := ⟨(rep 220 []), h⟩
def Q98x7 (M : Mk) (C : Cal) : Kont (AV × Heap) := (blockQ 0 (seqQ (evalE M C k98x6) (seqQ (evalE M C k98x5) (seqQ (evalE M C k98x2) (seqQ (evalE M C k98x0) (endQ []))))))
def L98x7 : Option R := loopE (evalE M C k98x7) 3091 1027 ⟨(vl s0 n0 :: (vi i1 :: (.any :: .any :: (.g [] true v4::rep 5 (vi i10::vi i11::rep 208 []))))), h⟩ Q
def Q98x35 (M : Mk) (C : Cal) : Kont (AV × Heap) := (blockQ 4 (seqQ (evalE M C k98x34) (seqQ (evalE M C k98x33) (seqQ (evalE M C k98x30) (seqQ (evalE M C k98x28) (endQ []))))))
def L98x35 : Option R := loopE (evalE M C k98x35) 49173 16389 ⟨vl s0 n0::.any::vi i2::.any::.g [] true v4::rep 9 (vi i14::vi i15::rep 204 []), h⟩ Q
def J98x64 : Res := M (AV × Heap) (seqQ (evalE M C k98x59) (endQ [])) (vl s0 n0::vi i1::vi i2::vi i3::.g [] true v4::rep 13 (vi i18::vi i19::vi i20::vi i21::rep 198 [])) h
def J98x16 : Option R := M R (blockQ 1 (seqQ (evalE M C k98x12) (roundQ M C k98x7 3091 1027 Q))) (vl s0 n0 :: (vi i1 :: (.any :: .any :: (.g [] true v4::rep 5 (vi i10::vi i11::rep 208 []))))) h
def J98x44 : Option R := M R (blockQ 5 (seqQ (evalE M C k98x40) (roundQ M C k98x35 49173 16389 Q))) (vl s0 n0::.any::vi i2::.any::.g [] true v4::rep 9 (vi i14::vi i15::rep 204 [])) h
def Q98x68 (M : Mk) (C : Cal) : Kont (AV × Heap) := (blockQ 8 (seqQ (evalE M C k98x67) (seqQ (evalE M C k98x66) (endQ []))))
def L98x68 : Option R := loopE (evalE M C k98x68) 8126495 1835039 ⟨vl s0 n0::vi i1::vi i2::vi i3::.g [] true v4::rep 13 (vi i18::vi i19::vi i20::vi i21::vi i22::rep 197 []), h⟩ Q
def J98x77 : Option R := M R (blockQ 9 (seqQ (evalE M C k98x73) (roundQ M C k98x68 8126495 1835039 Q))) (vl s0 n0::vi i1::vi i2::vi i3::.g [] true v4::rep 13 (vi i18::vi i19::vi i20::vi i21::vi i22::rep 197 [])) h
def Q98x20 (M : Mk) (C : Cal) : Kont (AV × Heap) := (blockQ 2 (seqQ (evalE M C k98x19) (seqQ (evalE M C k98x17) (seqQ (evalE M C k98x2) (seqQ (evalE M C k98x0) (endQ []))))))
def L98x20 : Option R := loopE (evalE M C k98x20) 9217 0 ⟨(vl s0 n0 :: (rep 9 (vi i10 :: (.any :: .any :: (vi i13::rep 206 []))))), h⟩ Q
def Q98x48 (M : Mk) (C : Cal) : Kont (AV × Heap) := (blockQ 6 (seqQ (evalE M C k98x47) (seqQ (evalE M C k98x45) (seqQ (evalE M C k98x30) (seqQ (evalE M C k98x28) (endQ []))))))
def L98x48 : Option R := loopE (evalE M C k98x48) 147457 0 ⟨(vl s0 n0 :: (rep 13 (vi i14 :: (.any :: .any :: (vi i17::rep 202 []))))), h⟩ Q
def J98x82 : Res := M (AV × Heap) (seqQ (evalE M C k98x79) (endQ [])) (vl s0 n0::vi i1::.any::vi i3::.g [] true v4::rep 13 (vi i18::.any::vi i20::rep 3 (vi i24::rep 195 []))) h
def J98x86 : Res := M (AV × Heap) (seqQ (evalE M C k98x83) (endQ [])) (vl s0 n0 :: (.any :: .any :: (vi i3::.g [] true v4::rep 13 (vi i18::rep 5 (vi i24::rep 195 []))))) h
def J98x89 (M : Mk) (C : Cal) (h : Heap) : Res := M (AV × Heap) (endQ []) (rep 220 []) h
theorem r98 : runE M C c98 [(.sl s0 n0), (.int .i64 i1), (.int .i64 i2), (.int .i64 i3), v4] h = (
 letK (IntKind.wrap .i64 (i2 - i1)) fun i27 =>
 letK (decide (i27 = 1)) fun b28 =>
 if b28 = true then
  (
  L98x7 M C s0 n0 i1 v4 i2 i3 h (Q98x7 M C)
  )
 else
  (
  letK (IntKind.wrap .i64 (i3 - i2)) fun i79 =>
  letK (decide (i79 = 1)) fun b80 =>
  if b80 = true then
   (
   L98x35 M C s0 n0 i2 v4 i1 i2 h (Q98x35 M C)
   )
  else
   (
   letK (IntKind.wrap .i64 (i1 + i3)) fun i131 =>
   letK (IntKind.wrap .u64 i131) fun i132 =>
   letK (Int.fdiv i132 (2 ^ 1)) fun i133 =>
   letK (IntKind.wrap .i64 i133) fun i134 =>
   letK (IntKind.wrap .i64 (i134 + i2)) fun i137 =>
   letK (decide (i134 < i2)) fun b140 =>
   if b140 = true then
    (
    letK (IntKind.wrap .i64 (i137 - i3)) fun i143 =>
    J98x64 M C s0 n0 i1 i2 i3 v4 i134 i137 i143 i134 h
    )
   else
    (
    J98x64 M C s0 n0 i1 i2 i3 v4 i134 i137 i1 i2 h
    )
   )
  )
 ) := by kernel_rfl
theorem cf98 : cFn Try.prog 98 = some c98 := by kernel_rfl
theorem e98 : TEq (E 98 [(.sl s0 n0), (.int .i64 i1), (.int .i64 i2), (.int .i64 i3), v4] h) (r98 mk0 E s0 n0 i1 i2 i3 v4 h) := (EV_eq (P := Try.prog) (T := T0) rfl cf98 _ h).trans (r98 mk0 E s0 n0 i1 i2 i3 v4 h)
theorem L98x7xaux : rnd M C k98x7 3091 1027 ⟨(vl s0 n0 :: (vi i1 :: (.any :: .any :: (.g [] true v4::rep 5 (vi i10::vi i11::rep 208 []))))), h⟩ Q = (
 letK (decide (i10 < i11)) fun b33 =>
 if b33 = true then
  (
  letK (IntKind.wrap .i64 (i10 + i11)) fun i36 =>
  letK (IntKind.wrap .u64 i36) fun i37 =>
  letK (Int.fdiv i37 (2 ^ 1)) fun i38 =>
  letK (IntKind.wrap .i64 i38) fun i39 =>
  chk (true = true → 0 ≤ i39 ∧ i39 < (n0 : Int)) <|
  atP (adP s0) true fun a43 =>
  gCells (ldN h (Ad.add a43 (Int.toNat i39 * 4)) 4) true fun l44 =>
  gI .i64 (l44[0]?) true fun i44x0 =>
  gI .i64 (l44[1]?) true fun i44x1 =>
  gI .i64 (l44[2]?) true fun i44x2 =>
  gB (l44[3]?) true fun b44x3 =>
  chk (true = true → 0 ≤ i1 ∧ i1 < (n0 : Int)) <|
  atP (adP s0) true fun a47 =>
  gCells (ldN h (Ad.add a47 (Int.toNat i1 * 4)) 4) true fun l48 =>
  gI .i64 (l48[0]?) true fun i48x0 =>
  gI .i64 (l48[1]?) true fun i48x1 =>
  gI .i64 (l48[2]?) true fun i48x2 =>
  gB (l48[3]?) true fun b48x3 =>
  fnK v4 fun f49 a49 c49 =>
  (C f49 (a49 ++ [(.agg [(.int .i64 i44x0), (.int .i64 i44x1), (.int .i64 i44x2), (.bool b44x3)]), (.agg [(.int .i64 i48x0), (.int .i64 i48x1), (.int .i64 i48x2), (.bool b48x3)])] ++ c49) h).bind fun r49 =>
  gI .i64 (some r49.1) true fun i49 =>
  letK (decide (i49 < 0)) fun b50 =>
  if b50 = true then
   (
   letK (IntKind.wrap .i64 (i39 + 1)) fun i52 =>
   J98x16 M C s0 n0 i1 v4 i52 i11 r49.2 Q
   )
  else
   (
   J98x16 M C s0 n0 i1 v4 i10 i39 r49.2 Q
   )
  )
 else
  (
  Q (.exit 0) (S98xe0 s0 n0 i1 i10 h)
  )
 ) := by kernel_rfl
theorem L98x7xeq : TEq (L98x7 mk0 C s0 n0 i1 v4 i10 i11 h Q) (L98x7xaux mk0 C s0 n0 i1 v4 i10 i11 h Q) := loop_te (by kernel_rfl)
theorem L98x35xaux : rnd M C k98x35 49173 16389 ⟨vl s0 n0::.any::vi i2::.any::.g [] true v4::rep 9 (vi i14::vi i15::rep 204 []), h⟩ Q = (
 letK (decide (i14 < i15)) fun b85 =>
 if b85 = true then
  (
  letK (IntKind.wrap .i64 (i14 + i15)) fun i88 =>
  letK (IntKind.wrap .u64 i88) fun i89 =>
  letK (Int.fdiv i89 (2 ^ 1)) fun i90 =>
  letK (IntKind.wrap .i64 i90) fun i91 =>
  chk (true = true → 0 ≤ i2 ∧ i2 < (n0 : Int)) <|
  atP (adP s0) true fun a95 =>
  gCells (ldN h (Ad.add a95 (Int.toNat i2 * 4)) 4) true fun l96 =>
  gI .i64 (l96[0]?) true fun i96x0 =>
  gI .i64 (l96[1]?) true fun i96x1 =>
  gI .i64 (l96[2]?) true fun i96x2 =>
  gB (l96[3]?) true fun b96x3 =>
  chk (true = true → 0 ≤ i91 ∧ i91 < (n0 : Int)) <|
  atP (adP s0) true fun a99 =>
  gCells (ldN h (Ad.add a99 (Int.toNat i91 * 4)) 4) true fun l100 =>
  gI .i64 (l100[0]?) true fun i100x0 =>
  gI .i64 (l100[1]?) true fun i100x1 =>
  gI .i64 (l100[2]?) true fun i100x2 =>
  gB (l100[3]?) true fun b100x3 =>
  fnK v4 fun f101 a101 c101 =>
  (C f101 (a101 ++ [(.agg [(.int .i64 i96x0), (.int .i64 i96x1), (.int .i64 i96x2), (.bool b96x3)]), (.agg [(.int .i64 i100x0), (.int .i64 i100x1), (.int .i64 i100x2), (.bool b100x3)])] ++ c101) h).bind fun r101 =>
  gI .i64 (some r101.1) true fun i101 =>
  letK (decide (i101 < 0)) fun b102 =>
  if (!b102) = true then
   (
   letK (IntKind.wrap .i64 (i91 + 1)) fun i105 =>
   J98x44 M C s0 n0 i2 v4 i105 i15 r101.2 Q
   )
  else
   (
   J98x44 M C s0 n0 i2 v4 i14 i91 r101.2 Q
   )
  )
 else
  (
  Q (.exit 4) (S98xe4 s0 n0 i2 i14 h)
  )
 ) := by kernel_rfl
theorem L98x35xeq : TEq (L98x35 mk0 C s0 n0 i2 v4 i14 i15 h Q) (L98x35xaux mk0 C s0 n0 i2 v4 i14 i15 h Q) := loop_te (by kernel_rfl)
theorem J98x64xaux : (forceK tk (vl s0 n0::vi i1::vi i2::vi i3::.g [] true v4::rep 13 (vi i18::vi i19::vi i20::vi i21::rep 198 [])) fun e => (seqQ (evalE M C k98x59) (endQ [])) .normal ⟨e, h⟩) = (
 letK (IntKind.wrap .i64 (i19 - 1)) fun i148 =>
 L98x68 M C s0 n0 i1 i2 i3 v4 i18 i19 i20 i21 i148 h (Q98x68 M C)
 ) := by kernel_rfl
theorem J98x64xeq : TEq (J98x64 mk0 C s0 n0 i1 i2 i3 v4 i18 i19 i20 i21 h) (J98x64xaux mk0 C s0 n0 i1 i2 i3 v4 i18 i19 i20 i21 h) := join_te
theorem J98x16xaux : (forceK tk (vl s0 n0 :: (vi i1 :: (.any :: .any :: (.g [] true v4::rep 5 (vi i10::vi i11::rep 208 []))))) fun e => (blockQ 1 (seqQ (evalE M C k98x12) (roundQ M C k98x7 3091 1027 Q))) .normal ⟨e, h⟩) = (
 L98x7 M C s0 n0 i1 v4 i10 i11 h Q
 ) := by kernel_rfl
theorem J98x16xeq : TEq (J98x16 mk0 C s0 n0 i1 v4 i10 i11 h Q) (J98x16xaux mk0 C s0 n0 i1 v4 i10 i11 h Q) := join_te
theorem J98x44xaux : (forceK tk (vl s0 n0::.any::vi i2::.any::.g [] true v4::rep 9 (vi i14::vi i15::rep 204 [])) fun e => (blockQ 5 (seqQ (evalE M C k98x40) (roundQ M C k98x35 49173 16389 Q))) .normal ⟨e, h⟩) = (
 L98x35 M C s0 n0 i2 v4 i14 i15 h Q
 ) := by kernel_rfl
theorem J98x44xeq : TEq (J98x44 mk0 C s0 n0 i2 v4 i14 i15 h Q) (J98x44xaux mk0 C s0 n0 i2 v4 i14 i15 h Q) := join_te
theorem L98x68xaux : rnd M C k98x68 8126495 1835039 ⟨vl s0 n0::vi i1::vi i2::vi i3::.g [] true v4::rep 13 (vi i18::vi i19::vi i20::vi i21::vi i22::rep 197 []), h⟩ Q = (
 letK (decide (i20 < i21)) fun b151 =>
 if b151 = true then
  (
  letK (IntKind.wrap .i64 (i20 + i21)) fun i154 =>
  letK (IntKind.wrap .u64 i154) fun i155 =>
  letK (Int.fdiv i155 (2 ^ 1)) fun i156 =>
  letK (IntKind.wrap .i64 i156) fun i157 =>
  letK (IntKind.wrap .i64 (i22 - i157)) fun i162 =>
  chk (true = true → 0 ≤ i162 ∧ i162 < (n0 : Int)) <|
  atP (adP s0) true fun a163 =>
  gCells (ldN h (Ad.add a163 (Int.toNat i162 * 4)) 4) true fun l164 =>
  gI .i64 (l164[0]?) true fun i164x0 =>
  gI .i64 (l164[1]?) true fun i164x1 =>
  gI .i64 (l164[2]?) true fun i164x2 =>
  gB (l164[3]?) true fun b164x3 =>
  chk (true = true → 0 ≤ i157 ∧ i157 < (n0 : Int)) <|
  atP (adP s0) true fun a167 =>
  gCells (ldN h (Ad.add a167 (Int.toNat i157 * 4)) 4) true fun l168 =>
  gI .i64 (l168[0]?) true fun i168x0 =>
  gI .i64 (l168[1]?) true fun i168x1 =>
  gI .i64 (l168[2]?) true fun i168x2 =>
  gB (l168[3]?) true fun b168x3 =>
  fnK v4 fun f169 a169 c169 =>
  (C f169 (a169 ++ [(.agg [(.int .i64 i164x0), (.int .i64 i164x1), (.int .i64 i164x2), (.bool b164x3)]), (.agg [(.int .i64 i168x0), (.int .i64 i168x1), (.int .i64 i168x2), (.bool b168x3)])] ++ c169) h).bind fun r169 =>
  gI .i64 (some r169.1) true fun i169 =>
  letK (decide (i169 < 0)) fun b170 =>
  if (!b170) = true then
   (
   letK (IntKind.wrap .i64 (i157 + 1)) fun i173 =>
   J98x77 M C s0 n0 i1 i2 i3 v4 i18 i19 i173 i21 i22 r169.2 Q
   )
  else
   (
   J98x77 M C s0 n0 i1 i2 i3 v4 i18 i19 i20 i157 i22 r169.2 Q
   )
  )
 else
  (
  Q (.exit 8) (S98xe8 s0 n0 i1 i2 i3 v4 i18 i19 i20 h)
  )
 ) := by kernel_rfl
theorem L98x68xeq : TEq (L98x68 mk0 C s0 n0 i1 i2 i3 v4 i18 i19 i20 i21 i22 h Q) (L98x68xaux mk0 C s0 n0 i1 i2 i3 v4 i18 i19 i20 i21 i22 h Q) := loop_te (by kernel_rfl)
theorem J98x77xaux : (forceK tk (vl s0 n0::vi i1::vi i2::vi i3::.g [] true v4::rep 13 (vi i18::vi i19::vi i20::vi i21::vi i22::rep 197 [])) fun e => (blockQ 9 (seqQ (evalE M C k98x73) (roundQ M C k98x68 8126495 1835039 Q))) .normal ⟨e, h⟩) = (
 L98x68 M C s0 n0 i1 i2 i3 v4 i18 i19 i20 i21 i22 h Q
 ) := by kernel_rfl
theorem J98x77xeq : TEq (J98x77 mk0 C s0 n0 i1 i2 i3 v4 i18 i19 i20 i21 i22 h Q) (J98x77xaux mk0 C s0 n0 i1 i2 i3 v4 i18 i19 i20 i21 i22 h Q) := join_te
theorem X98x7xe0 : Q98x7 M C (.exit 0) (S98xe0 s0 n0 i1 i10 h) = (
 L98x20 M C s0 n0 i10 i1 h (Q98x20 M C)
 ) := by kernel_rfl
theorem L98x20xaux : rnd M C k98x20 9217 0 ⟨(vl s0 n0 :: (rep 9 (vi i10 :: (.any :: .any :: (vi i13::rep 206 []))))), h⟩ Q = (
 letK (IntKind.wrap .i64 (i10 - 1)) fun i57 =>
 letK (decide (i13 < i57)) fun b58 =>
 if b58 = true then
  (
  letK (IntKind.wrap .i64 (i13 + 1)) fun i65 =>
  letK (IntKind.wrap .i64 (i13 + 1)) fun i68 =>
  chk (true = true → 0 ≤ i68 ∧ i68 < (n0 : Int)) <|
  atP (adP s0) true fun a69 =>
  gCells (ldN h (Ad.add a69 (Int.toNat i68 * 4)) 4) true fun l70 =>
  gI .i64 (l70[0]?) true fun i70x0 =>
  gI .i64 (l70[1]?) true fun i70x1 =>
  gI .i64 (l70[2]?) true fun i70x2 =>
  gB (l70[3]?) true fun b70x3 =>
  chk (true = true → 0 ≤ i13 ∧ i13 < (n0 : Int)) <|
  atP (adP s0) true fun a73 =>
  gCells (ldN h (Ad.add a73 (Int.toNat i13 * 4)) 4) true fun l74 =>
  gI .i64 (l74[0]?) true fun i74x0 =>
  gI .i64 (l74[1]?) true fun i74x1 =>
  gI .i64 (l74[2]?) true fun i74x2 =>
  gB (l74[3]?) true fun b74x3 =>
  chk (true = true → 0 ≤ i13 ∧ i13 < (n0 : Int)) <|
  atP (adP s0) true fun a75 =>
  (stN h (Ad.add a75 (Int.toNat i13 * 4)) [(.int .i64 i70x0), (.int .i64 i70x1), (.int .i64 i70x2), (.bool b70x3)]).bind fun h_2 =>
  chk (true = true → 0 ≤ i65 ∧ i65 < (n0 : Int)) <|
  atP (adP s0) true fun a76 =>
  (stN h_2 (Ad.add a76 (Int.toNat i65 * 4)) [(.int .i64 i74x0), (.int .i64 i74x1), (.int .i64 i74x2), (.bool b74x3)]).bind fun h_3 =>
  letK (IntKind.wrap .i64 (i13 + 1)) fun i60 =>
  L98x20 M C s0 n0 i10 i60 h_3 Q
  )
 else
  (
  Q (.exit 2) (S98xe2 h)
  )
 ) := by kernel_rfl
theorem L98x20xeq : TEq (L98x20 mk0 C s0 n0 i10 i13 h Q) (L98x20xaux mk0 C s0 n0 i10 i13 h Q) := loop_te (by kernel_rfl)
theorem X98x35xe4 : Q98x35 M C (.exit 4) (S98xe4 s0 n0 i2 i14 h) = (
 L98x48 M C s0 n0 i14 i2 h (Q98x48 M C)
 ) := by kernel_rfl
theorem L98x48xaux : rnd M C k98x48 147457 0 ⟨(vl s0 n0 :: (rep 13 (vi i14 :: (.any :: .any :: (vi i17::rep 202 []))))), h⟩ Q = (
 letK (decide (i14 < i17)) fun b110 =>
 if b110 = true then
  (
  letK (IntKind.wrap .i64 (i17 - 1)) fun i117 =>
  letK (IntKind.wrap .i64 (i17 - 1)) fun i120 =>
  chk (true = true → 0 ≤ i120 ∧ i120 < (n0 : Int)) <|
  atP (adP s0) true fun a121 =>
  gCells (ldN h (Ad.add a121 (Int.toNat i120 * 4)) 4) true fun l122 =>
  gI .i64 (l122[0]?) true fun i122x0 =>
  gI .i64 (l122[1]?) true fun i122x1 =>
  gI .i64 (l122[2]?) true fun i122x2 =>
  gB (l122[3]?) true fun b122x3 =>
  chk (true = true → 0 ≤ i17 ∧ i17 < (n0 : Int)) <|
  atP (adP s0) true fun a125 =>
  gCells (ldN h (Ad.add a125 (Int.toNat i17 * 4)) 4) true fun l126 =>
  gI .i64 (l126[0]?) true fun i126x0 =>
  gI .i64 (l126[1]?) true fun i126x1 =>
  gI .i64 (l126[2]?) true fun i126x2 =>
  gB (l126[3]?) true fun b126x3 =>
  chk (true = true → 0 ≤ i17 ∧ i17 < (n0 : Int)) <|
  atP (adP s0) true fun a127 =>
  (stN h (Ad.add a127 (Int.toNat i17 * 4)) [(.int .i64 i122x0), (.int .i64 i122x1), (.int .i64 i122x2), (.bool b122x3)]).bind fun h_2 =>
  chk (true = true → 0 ≤ i117 ∧ i117 < (n0 : Int)) <|
  atP (adP s0) true fun a128 =>
  (stN h_2 (Ad.add a128 (Int.toNat i117 * 4)) [(.int .i64 i126x0), (.int .i64 i126x1), (.int .i64 i126x2), (.bool b126x3)]).bind fun h_3 =>
  letK (IntKind.wrap .i64 (i17 - 1)) fun i112 =>
  L98x48 M C s0 n0 i14 i112 h_3 Q
  )
 else
  (
  Q (.exit 6) (S98xe6 h)
  )
 ) := by kernel_rfl
theorem L98x48xeq : TEq (L98x48 mk0 C s0 n0 i14 i17 h Q) (L98x48xaux mk0 C s0 n0 i14 i17 h Q) := loop_te (by kernel_rfl)
theorem X98x68xe8 : Q98x68 M C (.exit 8) (S98xe8 s0 n0 i1 i2 i3 v4 i18 i19 i20 h) = (
 letK (IntKind.wrap .i64 (i19 - i20)) fun i177 =>
 letK (decide (i20 < i2)) fun b180 =>
 letK (decide (i2 < i177)) fun b184 =>
 letK (if b180 = true then b184 else false) fun b185 =>
 if b185 = true then
  (
  (C 100 [(.sl s0 n0), (.int .i64 i20), (.int .i64 i2), (.int .i64 i177), v4] h).bind fun r191 =>
  gT 0 r191.1 true fun u191 =>
  J98x82 M C s0 n0 i1 i3 v4 i18 i20 i177 r191.2
  )
 else
  (
  J98x82 M C s0 n0 i1 i3 v4 i18 i20 i177 h
  )
 ) := by kernel_rfl
theorem J98x82xaux : (forceK tk (vl s0 n0::vi i1::.any::vi i3::.g [] true v4::rep 13 (vi i18::.any::vi i20::rep 3 (vi i24::rep 195 []))) fun e => (seqQ (evalE M C k98x79) (endQ [])) .normal ⟨e, h⟩) = (
 letK (decide (i1 < i20)) fun b194 =>
 letK (decide (i20 < i18)) fun b198 =>
 letK (if b194 = true then b198 else false) fun b199 =>
 if b199 = true then
  (
  (C 98 [(.sl s0 n0), (.int .i64 i1), (.int .i64 i20), (.int .i64 i18), v4] h).bind fun r205 =>
  gT 0 r205.1 true fun u205 =>
  J98x86 M C s0 n0 i3 v4 i18 i24 r205.2
  )
 else
  (
  J98x86 M C s0 n0 i3 v4 i18 i24 h
  )
 ) := by kernel_rfl
theorem J98x82xeq : TEq (J98x82 mk0 C s0 n0 i1 i3 v4 i18 i20 i24 h) (J98x82xaux mk0 C s0 n0 i1 i3 v4 i18 i20 i24 h) := join_te
theorem J98x86xaux : (forceK tk (vl s0 n0 :: (.any :: .any :: (vi i3::.g [] true v4::rep 13 (vi i18::rep 5 (vi i24::rep 195 []))))) fun e => (seqQ (evalE M C k98x83) (endQ [])) .normal ⟨e, h⟩) = (
 letK (decide (i18 < i24)) fun b208 =>
 letK (decide (i24 < i3)) fun b212 =>
 letK (if b208 = true then b212 else false) fun b213 =>
 if b213 = true then
  (
  (C 98 [(.sl s0 n0), (.int .i64 i18), (.int .i64 i24), (.int .i64 i3), v4] h).bind fun r219 =>
  gT 0 r219.1 true fun u219 =>
  J98x89 M C r219.2
  )
 else
  (
  J98x89 M C h
  )
 ) := by kernel_rfl
theorem J98x86xeq : TEq (J98x86 mk0 C s0 n0 i3 v4 i18 i24 h) (J98x86xaux mk0 C s0 n0 i3 v4 i18 i24 h) := join_te
theorem J98x89xaux (M : Mk) (C : Cal) (h : Heap) : (forceK tk (rep 220 []) fun e => (endQ []) .normal ⟨e, h⟩) = (
 some (.tup [], h)
 ) := by kernel_rfl
theorem J98x89xeq : TEq (J98x89 mk0 C h) (J98x89xaux mk0 C h) := join_te
theorem X98x20xe2 : Q98x20 M C (.exit 2) (S98xe2 h) = (
 some (.tup [], h)
 ) := by kernel_rfl
theorem X98x48xe6 : Q98x48 M C (.exit 6) (S98xe6 h) = (
 some (.tup [], h)
 ) := by kernel_rfl
end
noncomputable section
variable (s0 : SA) (n0 : Nat) (i1 : Int) (v2 : AV) (i6 i7 i8 : Int) (h : Heap) (Q : Kont R)
def S92xe0 : St := ⟨vl s0 n0::vi i1::.g [] true v2::rep 3 (vi i6::vi i7::rep 55 []), h⟩
def S92xe2 : St := ⟨(rep 63 []), h⟩
def S92xe4 : St := ⟨vl s0 n0::vi i1::.g [] true v2::rep 3 (vi i6::vi i7::rep 55 []), h⟩
def Q92x4 (M : Mk) (C : Cal) : Kont (AV × Heap) := (blockQ 0 (seqQ (evalE M C k92x3) (seqQ (evalE M C k92x2) (endQ []))))
def L92x4 : Option R := loopE (evalE M C k92x4) 455 199 ⟨vl s0 n0::vi i1::.g [] true v2::rep 3 (vi i6::vi i7::vi i8::rep 54 []), h⟩ Q
def Q92x14 (M : Mk) (C : Cal) : Kont (AV × Heap) := (blockQ 2 (seqQ (evalE M C k92x13) (endQ [])))
def L92x14 : Option R := loopE (evalE M C k92x14) 71 0 ⟨vl s0 n0::vi i1::.g [] true v2::rep 3 (vi i6::rep 56 []), h⟩ Q
def Q92x23 : Kont R := (blockQ 4 (seqQ (evalE M C k92x22) (seqQ (evalE M C k92x21) (blockQ 3 (seqQ (evalE M C k92x19) (roundQ M C k92x14 71 0 Q))))))
def L92x23 : Option R := loopE (evalE M C k92x23) 455 199 ⟨vl s0 n0::vi i1::.g [] true v2::rep 3 (vi i6::vi i7::vi i8::rep 54 []), h⟩ Q
def J92x35 : Option R := M R (seqQ (evalE M C k92x31) (blockQ 3 (seqQ (evalE M C k92x19) (roundQ M C k92x14 71 0 Q)))) (vl s0 n0::vi i1::.g [] true v2::rep 3 (vi i6::rep 56 [])) h
theorem r92 : runE M C c92 [(.sl s0 n0), (.int .i64 i1), v2] h = (
 L92x4 M C s0 n0 i1 v2 20 0 20 h (Q92x4 M C)
 ) := by kernel_rfl
theorem e92 : TEq (E 92 [(.sl s0 n0), (.int .i64 i1), v2] h) (r92 mk0 E s0 n0 i1 v2 h) := (EV_eq (P := Try.prog) (T := T0) rfl cf92 _ h).trans (r92 mk0 E s0 n0 i1 v2 h)
theorem L92x4xaux : rnd M C k92x4 455 199 ⟨vl s0 n0::vi i1::.g [] true v2::rep 3 (vi i6::vi i7::vi i8::rep 54 []), h⟩ Q = (
 letK (decide (i8 ≤ i1)) fun b13 =>
 if b13 = true then
  (
  (C 97 [(.sl s0 n0), (.int .i64 i7), (.int .i64 i8), v2] h).bind fun r18 =>
  gT 0 r18.1 true fun u18 =>
  letK (IntKind.wrap .i64 (i8 + i6)) fun i22 =>
  L92x4 M C s0 n0 i1 v2 i6 i8 i22 r18.2 Q
  )
 else
  (
  Q (.exit 0) (S92xe0 s0 n0 i1 v2 i6 i7 h)
  )
 ) := by kernel_rfl
theorem L92x4xeq : TEq (L92x4 mk0 C s0 n0 i1 v2 i6 i7 i8 h Q) (L92x4xaux mk0 C s0 n0 i1 v2 i6 i7 i8 h Q) := loop_te (by kernel_rfl)
theorem X92x4xe0 : Q92x4 M C (.exit 0) (S92xe0 s0 n0 i1 v2 i6 i7 h) = (
 (C 97 [(.sl s0 n0), (.int .i64 i7), (.int .i64 i1), v2] h).bind fun r27 =>
 gT 0 r27.1 true fun u27 =>
 L92x14 M C s0 n0 i1 v2 i6 r27.2 (Q92x14 M C)
 ) := by kernel_rfl
theorem L92x14xaux : rnd M C k92x14 71 0 ⟨vl s0 n0::vi i1::.g [] true v2::rep 3 (vi i6::rep 56 []), h⟩ Q = (
 letK (decide (i6 < i1)) fun b30 =>
 if b30 = true then
  (
  letK (IntKind.wrap .i64 (2 * i6)) fun i32 =>
  L92x23 M C s0 n0 i1 v2 i6 0 i32 h (Q92x23 M C Q)
  )
 else
  (
  Q (.exit 2) (S92xe2 h)
  )
 ) := by kernel_rfl
theorem L92x14xeq : TEq (L92x14 mk0 C s0 n0 i1 v2 i6 h Q) (L92x14xaux mk0 C s0 n0 i1 v2 i6 h Q) := loop_te (by kernel_rfl)
theorem L92x23xaux : rnd M C k92x23 455 199 ⟨vl s0 n0::vi i1::.g [] true v2::rep 3 (vi i6::vi i7::vi i8::rep 54 []), h⟩ Q = (
 letK (decide (i8 ≤ i1)) fun b35 =>
 if b35 = true then
  (
  letK (IntKind.wrap .i64 (i7 + i6)) fun i40 =>
  (C 98 [(.sl s0 n0), (.int .i64 i7), (.int .i64 i40), (.int .i64 i8), v2] h).bind fun r43 =>
  gT 0 r43.1 true fun u43 =>
  letK (IntKind.wrap .i64 (2 * i6)) fun i47 =>
  letK (IntKind.wrap .i64 (i8 + i47)) fun i48 =>
  L92x23 M C s0 n0 i1 v2 i6 i8 i48 r43.2 Q
  )
 else
  (
  Q (.exit 4) (S92xe4 s0 n0 i1 v2 i6 i7 h)
  )
 ) := by kernel_rfl
theorem L92x23xeq : TEq (L92x23 mk0 C s0 n0 i1 v2 i6 i7 i8 h Q) (L92x23xaux mk0 C s0 n0 i1 v2 i6 i7 i8 h Q) := loop_te (by kernel_rfl)
theorem X92x14xe2 : Q92x14 M C (.exit 2) (S92xe2 h) = (
 some (.tup [], h)
 ) := by kernel_rfl
theorem X92x23xe4 : Q92x23 M C Q (.exit 4) (S92xe4 s0 n0 i1 v2 i6 i7 h) = (
 letK (IntKind.wrap .i64 (i7 + i6)) fun i51 =>
 letK (decide (i51 < i1)) fun b54 =>
 if b54 = true then
  (
  (C 98 [(.sl s0 n0), (.int .i64 i7), (.int .i64 i51), (.int .i64 i1), v2] h).bind fun r60 =>
  gT 0 r60.1 true fun u60 =>
  J92x35 M C s0 n0 i1 v2 i6 r60.2 Q
  )
 else
  (
  J92x35 M C s0 n0 i1 v2 i6 h Q
  )
 ) := by kernel_rfl
theorem J92x35xaux : (forceK tk (vl s0 n0::vi i1::.g [] true v2::rep 3 (vi i6::rep 56 [])) fun e => (seqQ (evalE M C k92x31) (blockQ 3 (seqQ (evalE M C k92x19) (roundQ M C k92x14 71 0 Q)))) .normal ⟨e, h⟩) = (
 letK (IntKind.wrap .i64 (i6 * 2)) fun i62 =>
 L92x14 M C s0 n0 i1 v2 i62 h Q
 ) := by kernel_rfl
theorem J92x35xeq : TEq (J92x35 mk0 C s0 n0 i1 v2 i6 h Q) (J92x35xaux mk0 C s0 n0 i1 v2 i6 h Q) := join_te
end
noncomputable section
variable (s0 : SA) (n0 : Nat) (v1 : AV) (h : Heap)
theorem r67 : runE M C c67 [(.sl s0 n0), v1] h = (
 (C 92 [(.sl s0 n0), (.int .i64 (n0 : Int)), v1] h).bind fun r8 =>
 gT 0 r8.1 true fun u8 =>
 some (.tup [], r8.2)
 ) := by kernel_rfl
theorem e67 : TEq (E 67 [(.sl s0 n0), v1] h) (r67 mk0 E s0 n0 v1 h) := (EV_eq (P := Try.prog) (T := T0) rfl cf67 _ h).trans (r67 mk0 E s0 n0 v1 h)
end
noncomputable section
variable (i0x0 : Int) (s0x1 : SA) (n0x1 : Nat) (i0x2 : Int) (s0x3 : SA) (n0x3 : Nat) (s1 : SA) (n1 : Nat) (i5 : Int) (s13 : SA) (n13 : Nat) (i14 i15 : Int) (s20 : SA) (n20 : Nat) (i21 i22 i30 i31 : Int) (h : Heap) (Q : Kont R)
def S32xe0 : St := ⟨.any::vl s1 n1::rep 72 [], h⟩
def S32xe2 : St := ⟨.any::vl s1 n1::rep 3 (vi i5::rep 7 (vl s13 n13::vi i14::vi i15::rep 58 [])), h⟩
def S32xe4 : St := ⟨.any::vl s1 n1::rep 3 (vi i5::rep 7 (vl s13 n13::vi i14::vi i15::rep 4 (vl s20 n20::vi i21::vi i22::rep 51 []))), h⟩
def Q32x5 (M : Mk) (C : Cal) : Kont (AV × Heap) := (blockQ 0 (seqQ (evalE M C k32x4) (seqQ (evalE M C k32x2) (endQ [.tmp 4]))))
def L32x5 : Option R := loopE (evalE M C k32x5) 57378 2 ⟨.any::vl s1 n1::rep 3 (vi i5::rep 7 (vl s13 n13::vi i14::vi i15::rep 58 [])), h⟩ Q
def Q32x16 : Kont R := (blockQ 2 (seqQ (evalE M C k32x15) (seqQ (evalE M C k32x13) (blockQ 1 (seqQ (evalE M C k32x11) (seqQ (evalE M C k32x10) (roundQ M C k32x5 57378 2 Q)))))))
def L32x16 : Option R := loopE (evalE M C k32x16) 7397410 57378 ⟨.any::vl s1 n1::rep 3 (vi i5::rep 7 (vl s13 n13::vi i14::vi i15::rep 4 (vl s20 n20::vi i21::vi i22::rep 51 []))), h⟩ Q
def Q32x29 : Kont R := (blockQ 4 (seqQ (evalE M C k32x28) (seqQ (evalE M C k32x26) (seqQ (evalE M C k32x24) (blockQ 3 (seqQ (evalE M C k32x22) (seqQ (evalE M C k32x21) (roundQ M C k32x16 7397410 57378 Q))))))))
def L32x29 : Option R := loopE (evalE M C k32x29) 3228622882 7397410 ⟨.any::vl s1 n1::rep 3 (vi i5::rep 7 (vl s13 n13::vi i14::vi i15::rep 4 (vl s20 n20::vi i21::vi i22::rep 7 (vi i30::vi i31::rep 42 [])))), h⟩ Q
def J32x40 : Option R := M R (seqQ (evalE M C k32x24) (blockQ 3 (seqQ (evalE M C k32x22) (seqQ (evalE M C k32x21) (roundQ M C k32x16 7397410 57378 Q))))) (.any::vl s1 n1::rep 3 (vi i5::rep 7 (vl s13 n13::vi i14::vi i15::rep 4 (vl s20 n20::vi i21::vi i22::rep 51 [])))) h
def J32x39 : Option R := M R (blockQ 5 (seqQ (evalE M C k32x35) (seqQ (evalE M C k32x34) (roundQ M C k32x29 3228622882 7397410 Q)))) (.any::vl s1 n1::rep 3 (vi i5::rep 7 (vl s13 n13::vi i14::vi i15::rep 4 (vl s20 n20::vi i21::vi i22::rep 7 (vi i30::vi i31::rep 42 []))))) h
theorem r32 : runE M C c32 [(.agg [(.int .i64 i0x0), (.sl s0x1 n0x1), (.int .i64 i0x2), (.sl s0x3 n0x3)]), (.sl s1 n1)] h = (
 L32x5 M C s1 n1 0 s0x3 n0x3 (n0x3 : Int) 0 h (Q32x5 M C)
 ) := by kernel_rfl
theorem e32 : TEq (E 32 [(.agg [(.int .i64 i0x0), (.sl s0x1 n0x1), (.int .i64 i0x2), (.sl s0x3 n0x3)]), (.sl s1 n1)] h) (r32 mk0 E i0x0 s0x1 n0x1 i0x2 s0x3 n0x3 s1 n1 h) := (EV_eq (P := Try.prog) (T := T0) rfl cf32 _ h).trans (r32 mk0 E i0x0 s0x1 n0x1 i0x2 s0x3 n0x3 s1 n1 h)
theorem L32x5xaux : rnd M C k32x5 57378 2 ⟨.any::vl s1 n1::rep 3 (vi i5::rep 7 (vl s13 n13::vi i14::vi i15::rep 58 [])), h⟩ Q = (
 letK (decide (i15 < i14)) fun b16 =>
 if b16 = true then
  (
  chk (true = true → 0 ≤ i15 ∧ i15 < (n13 : Int)) <|
  atP (adP s13) true fun a17 =>
  gCells (ldN h (Ad.add a17 (Int.toNat i15 * 7)) 7) true fun l18 =>
  gL (l18[0]?) true fun s18x0 n18x0 =>
  gI .i64 (l18[1]?) true fun i18x1 =>
  gI .i64 (l18[2]?) true fun i18x2 =>
  gI .i64 (l18[3]?) true fun i18x3 =>
  gI .i64 (l18[4]?) true fun i18x4 =>
  gI .i64 (l18[5]?) true fun i18x5 =>
  gL (l18[6]?) true fun s18x6 n18x6 =>
  L32x16 M C s1 n1 i5 s13 n13 i14 i15 s18x0 n18x0 (n18x0 : Int) 0 h (Q32x16 M C Q)
  )
 else
  (
  Q (.exit 0) (S32xe0 s1 n1 h)
  )
 ) := by kernel_rfl
theorem L32x5xeq : TEq (L32x5 mk0 C s1 n1 i5 s13 n13 i14 i15 h Q) (L32x5xaux mk0 C s1 n1 i5 s13 n13 i14 i15 h Q) := loop_te (by kernel_rfl)
theorem L32x16xaux : rnd M C k32x16 7397410 57378 ⟨.any::vl s1 n1::rep 3 (vi i5::rep 7 (vl s13 n13::vi i14::vi i15::rep 4 (vl s20 n20::vi i21::vi i22::rep 51 []))), h⟩ Q = (
 letK (decide (i22 < i21)) fun b23 =>
 if b23 = true then
  (
  chk (true = true → 0 ≤ i22 ∧ i22 < (n20 : Int)) <|
  atP (adP s20) true fun a24 =>
  gCells (ldN h (Ad.add a24 (Int.toNat i22 * 6)) 6) true fun l25 =>
  gI .i64 (l25[0]?) true fun i25x0 =>
  gI .i64 (l25[1]?) true fun i25x1 =>
  gI .i64 (l25[2]?) true fun i25x2 =>
  gI .i64 (l25[3]?) true fun i25x3 =>
  gI .i64 (l25[4]?) true fun i25x4 =>
  gL (l25[5]?) true fun s25x5 n25x5 =>
  (C 21 [(.int .i64 i25x0)] h).bind fun r28 =>
  gB (some r28.1) true fun b28 =>
  if b28 = true then
   (
   L32x29 M C s1 n1 i5 s13 n13 i14 i15 s20 n20 i21 i22 (n1 : Int) 0 r28.2 (Q32x29 M C Q)
   )
  else
   (
   J32x40 M C s1 n1 i5 s13 n13 i14 i15 s20 n20 i21 i22 r28.2 Q
   )
  )
 else
  (
  Q (.exit 2) (S32xe2 s1 n1 i5 s13 n13 i14 i15 h)
  )
 ) := by kernel_rfl
theorem L32x16xeq : TEq (L32x16 mk0 C s1 n1 i5 s13 n13 i14 i15 s20 n20 i21 i22 h Q) (L32x16xaux mk0 C s1 n1 i5 s13 n13 i14 i15 s20 n20 i21 i22 h Q) := loop_te (by kernel_rfl)
theorem L32x29xaux : rnd M C k32x29 3228622882 7397410 ⟨.any::vl s1 n1::rep 3 (vi i5::rep 7 (vl s13 n13::vi i14::vi i15::rep 4 (vl s20 n20::vi i21::vi i22::rep 7 (vi i30::vi i31::rep 42 [])))), h⟩ Q = (
 letK (decide (i31 < i30)) fun b32 =>
 if b32 = true then
  (
  chk (true = true → 0 ≤ i31 ∧ i31 < (n1 : Int)) <|
  atP (adP s1) true fun a36 =>
  gI .i64 (ld1 h (Ad.add (Ad.add a36 (Int.toNat i31 * 4)) 1)) true fun i38 =>
  letK (decide (0 ≤ i38)) fun b39 =>
  chk (b39 = true → 0 ≤ i31 ∧ i31 < (n1 : Int)) <|
  atP (adP s1) b39 fun a43 =>
  atP (some (Ad.add a43 (Int.toNat i31 * 4))) b39 fun a44 =>
  atP (some (Ad.add a44 1)) b39 fun a45 =>
  gI .i64 (ld1 h a45) b39 fun i45 =>
  letK (decide (i45 ≤ i5)) fun b47 =>
  letK (if b39 = true then b47 else false) fun b48 =>
  chk (b48 = true → 0 ≤ i31 ∧ i31 < (n1 : Int)) <|
  atP (adP s1) b48 fun a52 =>
  atP (some (Ad.add a52 (Int.toNat i31 * 4))) b48 fun a53 =>
  atP (some (Ad.add a53 2)) b48 fun a54 =>
  gI .i64 (ld1 h a54) b48 fun i54 =>
  letK (decide (i5 < i54)) fun b56 =>
  letK (if b48 = true then b56 else false) fun b57 =>
  if b57 = true then
   (
   chk (true = true → 0 ≤ i31 ∧ i31 < (n1 : Int)) <|
   atP (adP s1) true fun a60 =>
   (st1 h (Ad.add (Ad.add a60 (Int.toNat i31 * 4)) 3) (.bool true)).bind fun h_2 =>
   J32x39 M C s1 n1 i5 s13 n13 i14 i15 s20 n20 i21 i22 i30 i31 h_2 Q
   )
  else
   (
   J32x39 M C s1 n1 i5 s13 n13 i14 i15 s20 n20 i21 i22 i30 i31 h Q
   )
  )
 else
  (
  Q (.exit 4) (S32xe4 s1 n1 i5 s13 n13 i14 i15 s20 n20 i21 i22 h)
  )
 ) := by kernel_rfl
theorem L32x29xeq : TEq (L32x29 mk0 C s1 n1 i5 s13 n13 i14 i15 s20 n20 i21 i22 i30 i31 h Q) (L32x29xaux mk0 C s1 n1 i5 s13 n13 i14 i15 s20 n20 i21 i22 i30 i31 h Q) := loop_te (by kernel_rfl)
theorem J32x40xaux : (forceK tk (.any::vl s1 n1::rep 3 (vi i5::rep 7 (vl s13 n13::vi i14::vi i15::rep 4 (vl s20 n20::vi i21::vi i22::rep 51 [])))) fun e => (seqQ (evalE M C k32x24) (blockQ 3 (seqQ (evalE M C k32x22) (seqQ (evalE M C k32x21) (roundQ M C k32x16 7397410 57378 Q))))) .normal ⟨e, h⟩) = (
 letK (IntKind.wrap .i64 (i5 + 2)) fun i64 =>
 letK (IntKind.wrap .i64 (i22 + 1)) fun i65 =>
 L32x16 M C s1 n1 i64 s13 n13 i14 i15 s20 n20 i21 i65 h Q
 ) := by kernel_rfl
theorem J32x40xeq : TEq (J32x40 mk0 C s1 n1 i5 s13 n13 i14 i15 s20 n20 i21 i22 h Q) (J32x40xaux mk0 C s1 n1 i5 s13 n13 i14 i15 s20 n20 i21 i22 h Q) := join_te
theorem J32x39xaux : (forceK tk (.any::vl s1 n1::rep 3 (vi i5::rep 7 (vl s13 n13::vi i14::vi i15::rep 4 (vl s20 n20::vi i21::vi i22::rep 7 (vi i30::vi i31::rep 42 []))))) fun e => (blockQ 5 (seqQ (evalE M C k32x35) (seqQ (evalE M C k32x34) (roundQ M C k32x29 3228622882 7397410 Q)))) .normal ⟨e, h⟩) = (
 letK (IntKind.wrap .i64 (i31 + 1)) fun i62 =>
 L32x29 M C s1 n1 i5 s13 n13 i14 i15 s20 n20 i21 i22 i30 i62 h Q
 ) := by kernel_rfl
theorem J32x39xeq : TEq (J32x39 mk0 C s1 n1 i5 s13 n13 i14 i15 s20 n20 i21 i22 i30 i31 h Q) (J32x39xaux mk0 C s1 n1 i5 s13 n13 i14 i15 s20 n20 i21 i22 i30 i31 h Q) := join_te
theorem X32x5xe0 : Q32x5 M C (.exit 0) (S32xe0 s1 n1 h) = (
 (C 34 [(.sl s1 n1), (.fn 66 [] [])] h).bind fun r70 =>
 gL (some r70.1) true fun s70 n70 =>
 (C 67 [(.sl s70 n70), (.fn 68 [] [])] r70.2).bind fun r72 =>
 gT 0 r72.1 true fun u72 =>
 some ((.sl s70 n70), r72.2)
 ) := by kernel_rfl
theorem X32x16xe2 : Q32x16 M C Q (.exit 2) (S32xe2 s1 n1 i5 s13 n13 i14 i15 h) = (
 letK (IntKind.wrap .i64 (i5 + 2)) fun i67 =>
 letK (IntKind.wrap .i64 (i15 + 1)) fun i68 =>
 L32x5 M C s1 n1 i67 s13 n13 i14 i68 h Q
 ) := by kernel_rfl
theorem X32x29xe4 : Q32x29 M C Q (.exit 4) (S32xe4 s1 n1 i5 s13 n13 i14 i15 s20 n20 i21 i22 h) = (
 J32x40 M C s1 n1 i5 s13 n13 i14 i15 s20 n20 i21 i22 h Q
 ) := by kernel_rfl
end
noncomputable section
variable (i1x0 : Int) (s1x1 : SA) (n1x1 : Nat) (i1x2 : Int) (s1x3 : SA) (n1x3 : Nat) (p5 p7c0 : Option Ad) (s8 : SA) (n8 : Nat) (s9 : SA) (n9 : Nat) (i11 i12 : Int) (s13x0 : SA) (n13x0 : Nat) (i13x1 i13x2 i13x3 i13x4 i13x5 : Int) (s13x6 : SA) (n13x6 : Nat) (i17x0 i17x1 i17x2 i17x3 i17x4 : Int) (s17x5 : SA) (n17x5 : Nat) (i35 i36 : Int) (s53 : SA) (n53 : Nat) (i54 i55 : Int) (s63 : SA) (n63 : Nat) (i64 i65 : Int) (s77 : SA) (n77 : Nat) (i78 i79 : Int) (s84 : SA) (n84 : Nat) (i85 i86 : Int) (s106 : SA) (n106 : Nat) (i107 i108 : Int) (s120 : SA) (n120 : Nat) (i121 i122 : Int) (s138 : SA) (n138 : Nat) (i139 i140 : Int) (h : Heap) (Q : Kont R)
def S9xe0 (i1x0 : Int) (s1x1 : SA) (n1x1 : Nat) (i1x2 : Int) (s1x3 : SA) (n1x3 : Nat) (p5 : Option Ad) (h : Heap) : St := ⟨.any::.box [(.int .i64 i1x0), (.sl s1x1 n1x1), (.int .i64 i1x2), (.sl s1x3 n1x3)]::rep 3 (vp p5::rep 145 []), h⟩
def S9xe2 (i1x0 : Int) (s1x1 : SA) (n1x1 : Nat) (i1x2 : Int) (s1x3 : SA) (n1x3 : Nat) (p5 : Option Ad) (p7c0 : Option Ad) (h : Heap) : St := ⟨.any::.box [(.int .i64 i1x0), (.sl s1x1 n1x1), (.int .i64 i1x2), (.sl s1x3 n1x3)]::rep 3 (vp p5::.any::.g [] true (.fn 27 [] [(.ptr p7c0)])::rep 143 []), h⟩
def S9xe4 (i1x0 : Int) (s1x1 : SA) (n1x1 : Nat) (i1x2 : Int) (s1x3 : SA) (n1x3 : Nat) (p5 : Option Ad) (p7c0 : Option Ad) (s8 : SA) (n8 : Nat) (s9 : SA) (n9 : Nat) (i11 i12 : Int) (s13x0 : SA) (n13x0 : Nat) (i13x1 i13x2 : Int) (i13x3 i13x4 i13x5 : Int) (s13x6 : SA) (n13x6 : Nat) (s53 : SA) (n53 : Nat) (i54 i55 : Int) (h : Heap) : St := ⟨.any::.box [(.int .i64 i1x0), (.sl s1x1 n1x1), (.int .i64 i1x2), (.sl s1x3 n1x3)]::rep 3 (vp p5::.any::.g [] true (.fn 27 [] [(.ptr p7c0)])::vl s8 n8::vl s9 n9::.any::vi i11::vi i12::.box [(.sl s13x0 n13x0), (.int .i64 i13x1), (.int .i64 i13x2), (.int .i64 i13x3), (.int .i64 i13x4), (.int .i64 i13x5), (.sl s13x6 n13x6)]::rep 39 (vl s53 n53::vi i54::vi i55::rep 95 [])), h⟩
def S9xe14 (i1x0 : Int) (s1x1 : SA) (n1x1 : Nat) (i1x2 : Int) (s1x3 : SA) (n1x3 : Nat) (p5 : Option Ad) (h : Heap) : St := ⟨.any::.box [(.int .i64 i1x0), (.sl s1x1 n1x1), (.int .i64 i1x2), (.sl s1x3 n1x3)]::rep 3 (vp p5::rep 145 []), h⟩
def S9xe6 (i1x0 : Int) (s1x1 : SA) (n1x1 : Nat) (i1x2 : Int) (s1x3 : SA) (n1x3 : Nat) (p5 : Option Ad) (p7c0 : Option Ad) (s8 : SA) (n8 : Nat) (s9 : SA) (n9 : Nat) (i11 i12 : Int) (s13x0 : SA) (n13x0 : Nat) (i13x1 i13x2 : Int) (i13x3 i13x4 i13x5 : Int) (s13x6 : SA) (n13x6 : Nat) (s53 : SA) (n53 : Nat) (i54 i55 : Int) (h : Heap) : St := ⟨.any::.box [(.int .i64 i1x0), (.sl s1x1 n1x1), (.int .i64 i1x2), (.sl s1x3 n1x3)]::rep 3 (vp p5::.any::.g [] true (.fn 27 [] [(.ptr p7c0)])::vl s8 n8::vl s9 n9::.any::vi i11::vi i12::.box [(.sl s13x0 n13x0), (.int .i64 i13x1), (.int .i64 i13x2), (.int .i64 i13x3), (.int .i64 i13x4), (.int .i64 i13x5), (.sl s13x6 n13x6)]::rep 39 (vl s53 n53::vi i54::vi i55::rep 95 [])), h⟩
def S9xe8 (i1x0 : Int) (s1x1 : SA) (n1x1 : Nat) (i1x2 : Int) (s1x3 : SA) (n1x3 : Nat) (p5 : Option Ad) (p7c0 : Option Ad) (s8 : SA) (n8 : Nat) (s9 : SA) (n9 : Nat) (i11 i12 : Int) (s13x0 : SA) (n13x0 : Nat) (i13x1 i13x2 : Int) (i13x3 i13x4 i13x5 : Int) (s13x6 : SA) (n13x6 : Nat) (i17x0 i17x1 : Int) (i17x2 i17x3 i17x4 : Int) (s17x5 : SA) (n17x5 : Nat) (s53 : SA) (n53 : Nat) (i54 i55 : Int) (s77 : SA) (n77 : Nat) (i78 i79 : Int) (h : Heap) : St := ⟨.any::.box [(.int .i64 i1x0), (.sl s1x1 n1x1), (.int .i64 i1x2), (.sl s1x3 n1x3)]::rep 3 (vp p5::.any::.g [] true (.fn 27 [] [(.ptr p7c0)])::vl s8 n8::vl s9 n9::.any::vi i11::vi i12::.box [(.sl s13x0 n13x0), (.int .i64 i13x1), (.int .i64 i13x2), (.int .i64 i13x3), (.int .i64 i13x4), (.int .i64 i13x5), (.sl s13x6 n13x6)]::rep 3 (.box [(.int .i64 i17x0), (.int .i64 i17x1), (.int .i64 i17x2), (.int .i64 i17x3), (.int .i64 i17x4), (.sl s17x5 n17x5)]::rep 35 (vl s53 n53::vi i54::vi i55::rep 21 (vl s77 n77::vi i78::vi i79::rep 71 [])))), h⟩
def S9xe10 (i1x0 : Int) (s1x1 : SA) (n1x1 : Nat) (i1x2 : Int) (s1x3 : SA) (n1x3 : Nat) (p5 : Option Ad) (p7c0 : Option Ad) (s8 : SA) (n8 : Nat) (s9 : SA) (n9 : Nat) (i11 i12 : Int) (s53 : SA) (n53 : Nat) (i54 i55 : Int) (h : Heap) : St := ⟨.any::.box [(.int .i64 i1x0), (.sl s1x1 n1x1), (.int .i64 i1x2), (.sl s1x3 n1x3)]::rep 3 (vp p5::.any::.g [] true (.fn 27 [] [(.ptr p7c0)])::vl s8 n8::vl s9 n9::.any::vi i11::vi i12::rep 40 (vl s53 n53::vi i54::vi i55::rep 95 [])), h⟩
def S9xe12 (i1x0 : Int) (s1x1 : SA) (n1x1 : Nat) (i1x2 : Int) (s1x3 : SA) (n1x3 : Nat) (p5 : Option Ad) (p7c0 : Option Ad) (s8 : SA) (n8 : Nat) (s9 : SA) (n9 : Nat) (i11 : Int) (s53 : SA) (n53 : Nat) (i54 i55 : Int) (h : Heap) : St := ⟨.any::.box [(.int .i64 i1x0), (.sl s1x1 n1x1), (.int .i64 i1x2), (.sl s1x3 n1x3)]::rep 3 (vp p5::.any::.g [] true (.fn 27 [] [(.ptr p7c0)])::vl s8 n8::vl s9 n9::.any::vi i11::rep 41 (vl s53 n53::vi i54::vi i55::rep 95 [])), h⟩
def Q9x11 (M : Mk) (C : Cal) : Kont (AV × Heap) := (blockQ 0 (seqQ (evalE M C k9x10) (seqQ (evalE M C k9x8) (endQ [.tmp 2, .tmp 3]))))
def L9x11 (i1x0 : Int) (s1x1 : SA) (n1x1 : Nat) (i1x2 : Int) (s1x3 : SA) (n1x3 : Nat) (p5 : Option Ad) (i35 i36 : Int) (h : Heap) (Q : Kont R) : Option R := loopE (evalE M C k9x11) 103079215138 34 ⟨.any::.box [(.int .i64 i1x0), (.sl s1x1 n1x1), (.int .i64 i1x2), (.sl s1x3 n1x3)]::rep 3 (vp p5::rep 29 (vi i35::vi i36::rep 114 [])), h⟩ Q
def Q9x25 (M : Mk) (C : Cal) : Kont (AV × Heap) := (blockQ 2 (seqQ (evalE M C k9x24) (seqQ (evalE M C k9x22) (endQ [.tmp 2, .tmp 3]))))
def L9x25 (i1x0 : Int) (s1x1 : SA) (n1x1 : Nat) (i1x2 : Int) (s1x3 : SA) (n1x3 : Nat) (p5 : Option Ad) (p7c0 : Option Ad) (s8 : SA) (n8 : Nat) (s9 : SA) (n9 : Nat) (i11 : Int) (s53 : SA) (n53 : Nat) (i54 i55 : Int) (h : Heap) (Q : Kont R) : Option R := loopE (evalE M C k9x25) 63050394783189922 162 ⟨.any::.box [(.int .i64 i1x0), (.sl s1x1 n1x1), (.int .i64 i1x2), (.sl s1x3 n1x3)]::rep 3 (vp p5::.any::.g [] true (.fn 27 [] [(.ptr p7c0)])::vl s8 n8::vl s9 n9::.any::vi i11::rep 41 (vl s53 n53::vi i54::vi i55::rep 95 [])), h⟩ Q
def Q9x36 : Kont R := (blockQ 4 (seqQ (evalE M C k9x35) (seqQ (evalE M C k9x33) (blockQ 3 (seqQ (evalE M C k9x31) (seqQ (evalE M C k9x30) (roundQ M C k9x25 63050394783189922 162 Q)))))))
def L9x36 : Option R := loopE (evalE M C k9x36) 64626654652766632866 63050394783202210 ⟨.any::.box [(.int .i64 i1x0), (.sl s1x1 n1x1), (.int .i64 i1x2), (.sl s1x3 n1x3)]::rep 3 (vp p5::.any::.g [] true (.fn 27 [] [(.ptr p7c0)])::vl s8 n8::vl s9 n9::.any::vi i11::vi i12::.box [(.sl s13x0 n13x0), (.int .i64 i13x1), (.int .i64 i13x2), (.int .i64 i13x3), (.int .i64 i13x4), (.int .i64 i13x5), (.sl s13x6 n13x6)]::rep 39 (vl s53 n53::vi i54::vi i55::rep 7 (vl s63 n63::vi i64::vi i65::rep 85 []))), h⟩ Q
def J9x46 : Option R := M R (blockQ 5 (seqQ (evalE M C k9x42) (seqQ (evalE M C k9x41) (roundQ M C k9x36 64626654652766632866 63050394783202210 Q)))) (.any::.box [(.int .i64 i1x0), (.sl s1x1 n1x1), (.int .i64 i1x2), (.sl s1x3 n1x3)]::rep 3 (vp p5::.any::.g [] true (.fn 27 [] [(.ptr p7c0)])::vl s8 n8::vl s9 n9::.any::vi i11::vi i12::.box [(.sl s13x0 n13x0), (.int .i64 i13x1), (.int .i64 i13x2), (.int .i64 i13x3), (.int .i64 i13x4), (.int .i64 i13x5), (.sl s13x6 n13x6)]::rep 39 (vl s53 n53::vi i54::vi i55::rep 7 (vl s63 n63::vi i64::vi i65::rep 85 [])))) h
def Q9x98 (M : Mk) (C : Cal) : Kont (AV × Heap) := (blockQ 14 (seqQ (evalE M C k9x97) (seqQ (evalE M C k9x95) (endQ [.tmp 2, .tmp 3]))))
def L9x98 (i1x0 : Int) (s1x1 : SA) (n1x1 : Nat) (i1x2 : Int) (s1x3 : SA) (n1x3 : Nat) (p5 : Option Ad) (p7c0 : Option Ad) (s138 : SA) (n138 : Nat) (i139 i140 : Int) (h : Heap) (Q : Kont R) : Option R := loopE (evalE M C k9x98) 2439144006089286906105469186070914539716770 34 ⟨.any::.box [(.int .i64 i1x0), (.sl s1x1 n1x1), (.int .i64 i1x2), (.sl s1x3 n1x3)]::rep 3 (vp p5::.any::.g [] true (.fn 27 [] [(.ptr p7c0)])::rep 130 (vl s138 n138::vi i139::vi i140::rep 10 [])), h⟩ Q
def Q9x50 : Kont R := (blockQ 6 (seqQ (evalE M C k9x49) (seqQ (evalE M C k9x47) (blockQ 3 (seqQ (evalE M C k9x31) (seqQ (evalE M C k9x30) (roundQ M C k9x25 63050394783189922 162 Q)))))))
def L9x50 (i1x0 : Int) (s1x1 : SA) (n1x1 : Nat) (i1x2 : Int) (s1x3 : SA) (n1x3 : Nat) (p5 : Option Ad) (p7c0 : Option Ad) (s8 : SA) (n8 : Nat) (s9 : SA) (n9 : Nat) (i11 i12 : Int) (s13x0 : SA) (n13x0 : Nat) (i13x1 i13x2 : Int) (i13x3 i13x4 i13x5 : Int) (s13x6 : SA) (n13x6 : Nat) (s53 : SA) (n53 : Nat) (i54 i55 : Int) (s77 : SA) (n77 : Nat) (i78 i79 : Int) (h : Heap) (Q : Kont R) : Option R := loopE (evalE M C k9x50) 1057810155213195311070114 63050394783202210 ⟨.any::.box [(.int .i64 i1x0), (.sl s1x1 n1x1), (.int .i64 i1x2), (.sl s1x3 n1x3)]::rep 3 (vp p5::.any::.g [] true (.fn 27 [] [(.ptr p7c0)])::vl s8 n8::vl s9 n9::.any::vi i11::vi i12::.box [(.sl s13x0 n13x0), (.int .i64 i13x1), (.int .i64 i13x2), (.int .i64 i13x3), (.int .i64 i13x4), (.int .i64 i13x5), (.sl s13x6 n13x6)]::rep 39 (vl s53 n53::vi i54::vi i55::rep 21 (vl s77 n77::vi i78::vi i79::rep 71 []))), h⟩ Q
def Q9x61 : Kont R := (blockQ 8 (seqQ (evalE M C k9x60) (seqQ (evalE M C k9x58) (blockQ 7 (seqQ (evalE M C k9x56) (seqQ (evalE M C k9x55) (roundQ M C k9x50 1057810155213195311070114 63050394783202210 Q)))))))
def L9x61 (i1x0 : Int) (s1x1 : SA) (n1x1 : Nat) (i1x2 : Int) (s1x3 : SA) (n1x3 : Nat) (p5 : Option Ad) (p7c0 : Option Ad) (s8 : SA) (n8 : Nat) (s9 : SA) (n9 : Nat) (i11 i12 : Int) (s13x0 : SA) (n13x0 : Nat) (i13x1 i13x2 : Int) (i13x3 i13x4 i13x5 : Int) (s13x6 : SA) (n13x6 : Nat) (i17x0 i17x1 : Int) (i17x2 i17x3 i17x4 : Int) (s17x5 : SA) (n17x5 : Nat) (s53 : SA) (n53 : Nat) (i54 i55 : Int) (s77 : SA) (n77 : Nat) (i78 i79 : Int) (s84 : SA) (n84 : Nat) (i85 i86 : Int) (h : Heap) (Q : Kont R) : Option R := loopE (evalE M C k9x61) 136457501952051662878292898 1057810155213195311201186 ⟨.any::.box [(.int .i64 i1x0), (.sl s1x1 n1x1), (.int .i64 i1x2), (.sl s1x3 n1x3)]::rep 3 (vp p5::.any::.g [] true (.fn 27 [] [(.ptr p7c0)])::vl s8 n8::vl s9 n9::.any::vi i11::vi i12::.box [(.sl s13x0 n13x0), (.int .i64 i13x1), (.int .i64 i13x2), (.int .i64 i13x3), (.int .i64 i13x4), (.int .i64 i13x5), (.sl s13x6 n13x6)]::rep 3 (.box [(.int .i64 i17x0), (.int .i64 i17x1), (.int .i64 i17x2), (.int .i64 i17x3), (.int .i64 i17x4), (.sl s17x5 n17x5)]::rep 35 (vl s53 n53::vi i54::vi i55::rep 21 (vl s77 n77::vi i78::vi i79::rep 4 (vl s84 n84::vi i85::vi i86::rep 64 []))))), h⟩ Q
def Q9x73 : Kont R := (blockQ 10 (seqQ (evalE M C k9x72) (seqQ (evalE M C k9x70) (blockQ 3 (seqQ (evalE M C k9x31) (seqQ (evalE M C k9x30) (roundQ M C k9x25 63050394783189922 162 Q)))))))
def L9x73 (i1x0 : Int) (s1x1 : SA) (n1x1 : Nat) (i1x2 : Int) (s1x3 : SA) (n1x3 : Nat) (p5 : Option Ad) (p7c0 : Option Ad) (s8 : SA) (n8 : Nat) (s9 : SA) (n9 : Nat) (i11 i12 : Int) (s53 : SA) (n53 : Nat) (i54 i55 : Int) (s106 : SA) (n106 : Nat) (i107 i108 : Int) (h : Heap) (Q : Kont R) : Option R := loopE (evalE M C k9x73) 567907468902246834920917819202466 63050394783194018 ⟨.any::.box [(.int .i64 i1x0), (.sl s1x1 n1x1), (.int .i64 i1x2), (.sl s1x3 n1x3)]::rep 3 (vp p5::.any::.g [] true (.fn 27 [] [(.ptr p7c0)])::vl s8 n8::vl s9 n9::.any::vi i11::vi i12::rep 40 (vl s53 n53::vi i54::vi i55::rep 50 (vl s106 n106::vi i107::vi i108::rep 42 []))), h⟩ Q
def Q9x84 : Kont R := (blockQ 12 (seqQ (evalE M C k9x83) (seqQ (evalE M C k9x81) (blockQ 3 (seqQ (evalE M C k9x31) (seqQ (evalE M C k9x30) (roundQ M C k9x25 63050394783189922 162 Q)))))))
def L9x84 (i1x0 : Int) (s1x1 : SA) (n1x1 : Nat) (i1x2 : Int) (s1x3 : SA) (n1x3 : Nat) (p5 : Option Ad) (p7c0 : Option Ad) (s8 : SA) (n8 : Nat) (s9 : SA) (n9 : Nat) (i11 : Int) (s53 : SA) (n53 : Nat) (i54 i55 : Int) (s120 : SA) (n120 : Nat) (i121 i122 : Int) (h : Heap) (Q : Kont R) : Option R := loopE (evalE M C k9x84) 9304595970494411110389699816745601954 63050394783189922 ⟨.any::.box [(.int .i64 i1x0), (.sl s1x1 n1x1), (.int .i64 i1x2), (.sl s1x3 n1x3)]::rep 3 (vp p5::.any::.g [] true (.fn 27 [] [(.ptr p7c0)])::vl s8 n8::vl s9 n9::.any::vi i11::rep 41 (vl s53 n53::vi i54::vi i55::rep 64 (vl s120 n120::vi i121::vi i122::rep 28 []))), h⟩ Q
def J9x94 (M : Mk) (C : Cal) (i1x0 : Int) (s1x1 : SA) (n1x1 : Nat) (i1x2 : Int) (s1x3 : SA) (n1x3 : Nat) (p5 : Option Ad) (p7c0 : Option Ad) (s8 : SA) (n8 : Nat) (s9 : SA) (n9 : Nat) (i11 : Int) (s53 : SA) (n53 : Nat) (i54 i55 : Int) (s120 : SA) (n120 : Nat) (i121 i122 : Int) (h : Heap) (Q : Kont R) : Option R := M R (blockQ 13 (seqQ (evalE M C k9x90) (seqQ (evalE M C k9x89) (roundQ M C k9x84 9304595970494411110389699816745601954 63050394783189922 Q)))) (.any::.box [(.int .i64 i1x0), (.sl s1x1 n1x1), (.int .i64 i1x2), (.sl s1x3 n1x3)]::rep 3 (vp p5::.any::.g [] true (.fn 27 [] [(.ptr p7c0)])::vl s8 n8::vl s9 n9::.any::vi i11::rep 41 (vl s53 n53::vi i54::vi i55::rep 64 (vl s120 n120::vi i121::vi i122::rep 28 [])))) h
theorem r9 (i0x0 : Int) (s0x1 : SA) (n0x1 : Nat) (i0x2 : Int) (s0x3 : SA) (n0x3 : Nat) (h : Heap) : runE M C c9 [(.agg [(.int .i64 i0x0), (.sl s0x1 n0x1), (.int .i64 i0x2), (.sl s0x3 n0x3)])] h = (
 (C 26 [(.agg [(.int .i64 i0x0), (.sl s0x1 n0x1), (.int .i64 i0x2), (.sl s0x3 n0x3)])] h).bind fun r27 =>
 gI .i64 (some r27.1) true fun i27 =>
 letK (!decide (i27 = 0)) fun b29 =>
 if b29 = true then
  (
  some (.tup [(.sl .nil 0), (.int .i64 i27)], r27.2)
  )
 else
  (
  chk (0 ≤ i0x2 ∧ i0x2 ≤ i0x2 ∧ i0x2 * ((32 : Nat) : Int) ≤ 70368744177664) <|
  newK r27.2 (.cells (repl (Int.toNat i0x2) [(.int .i64 0), (.int .i64 0), (.int .i64 0), (.bool false)]) (.grow 4) 0) fun h_2 =>
  letK (Int.toNat i0x2) fun n33 =>
  newK h_2 (.cells [(.sl .nil 0)] .fix 0) fun h_3 =>
  (st1 h_3 ⟨List.length h_2, 0, 0⟩ (.sl (.pos ⟨List.length r27.2, 0, 0⟩) n33)).bind fun h_4 =>
  gL (ld1 h_4 ⟨List.length h_2, 0, 0⟩) true fun s34 n34 =>
  L9x11 M C i0x0 s0x1 n0x1 i0x2 s0x3 n0x3 (some ⟨List.length h_2, 0, 0⟩) (n34 : Int) 0 h_4 (Q9x11 M C)
  )
 ) := by kernel_rfl
theorem e9 (i0x0 : Int) (s0x1 : SA) (n0x1 : Nat) (i0x2 : Int) (s0x3 : SA) (n0x3 : Nat) (h : Heap) : TEq (E 9 [(.agg [(.int .i64 i0x0), (.sl s0x1 n0x1), (.int .i64 i0x2), (.sl s0x3 n0x3)])] h) (r9 mk0 E i0x0 s0x1 n0x1 i0x2 s0x3 n0x3 h) := (EV_eq (P := Try.prog) (T := T0) rfl cf9 _ h).trans (r9 mk0 E i0x0 s0x1 n0x1 i0x2 s0x3 n0x3 h)
theorem L9x11xaux (i1x0 : Int) (s1x1 : SA) (n1x1 : Nat) (i1x2 : Int) (s1x3 : SA) (n1x3 : Nat) (p5 : Option Ad) (i35 i36 : Int) (h : Heap) (Q : Kont R) : rnd M C k9x11 103079215138 34 ⟨.any::.box [(.int .i64 i1x0), (.sl s1x1 n1x1), (.int .i64 i1x2), (.sl s1x3 n1x3)]::rep 3 (vp p5::rep 29 (vi i35::vi i36::rep 114 [])), h⟩ Q = (
 letK (decide (i36 < i35)) fun b37 =>
 if b37 = true then
  (
  atP p5 true fun a39 =>
  gL (ld1 h a39) true fun s39 n39 =>
  chk (true = true → 0 ≤ i36 ∧ i36 < (n39 : Int)) <|
  atP (adP s39) true fun a43 =>
  (stN h (Ad.add a43 (Int.toNat i36 * 4)) [(.int .i64 i36), (.int .i64 (-1)), (.int .i64 0), (.bool false)]).bind fun h_2 =>
  letK (IntKind.wrap .i64 (i36 + 1)) fun i44 =>
  L9x11 M C i1x0 s1x1 n1x1 i1x2 s1x3 n1x3 p5 i35 i44 h_2 Q
  )
 else
  (
  Q (.exit 0) (S9xe0 i1x0 s1x1 n1x1 i1x2 s1x3 n1x3 p5 h)
  )
 ) := by kernel_rfl
theorem L9x11xeq : TEq (L9x11 mk0 C i1x0 s1x1 n1x1 i1x2 s1x3 n1x3 p5 i35 i36 h Q) (L9x11xaux mk0 C i1x0 s1x1 n1x1 i1x2 s1x3 n1x3 p5 i35 i36 h Q) := loop_te (by kernel_rfl)
theorem X9x11xe0 (i1x0 : Int) (s1x1 : SA) (n1x1 : Nat) (i1x2 : Int) (s1x3 : SA) (n1x3 : Nat) (p5 : Option Ad) (h : Heap) : Q9x11 M C (.exit 0) (S9xe0 i1x0 s1x1 n1x1 i1x2 s1x3 n1x3 p5 h) = (
 (C 28 [(.agg [(.int .i64 i1x0), (.sl s1x1 n1x1), (.int .i64 i1x2), (.sl s1x3 n1x3)])] h).bind fun r48 =>
 gT 3 r48.1 true fun u48 =>
 gL (some (List.getD u48 0 .opq)) true fun s48x0 n48x0 =>
 gL (some (List.getD u48 1 .opq)) true fun s48x1 n48x1 =>
 gI .i64 (some (List.getD u48 2 .opq)) true fun i48x2 =>
 L9x25 M C i1x0 s1x1 n1x1 i1x2 s1x3 n1x3 p5 p5 s48x0 n48x0 s48x1 n48x1 0 s1x3 n1x3 (n1x3 : Int) 0 r48.2 (Q9x25 M C)
 ) := by kernel_rfl
theorem L9x25xaux (i1x0 : Int) (s1x1 : SA) (n1x1 : Nat) (i1x2 : Int) (s1x3 : SA) (n1x3 : Nat) (p5 : Option Ad) (p7c0 : Option Ad) (s8 : SA) (n8 : Nat) (s9 : SA) (n9 : Nat) (i11 : Int) (s53 : SA) (n53 : Nat) (i54 i55 : Int) (h : Heap) (Q : Kont R) : rnd M C k9x25 63050394783189922 162 ⟨.any::.box [(.int .i64 i1x0), (.sl s1x1 n1x1), (.int .i64 i1x2), (.sl s1x3 n1x3)]::rep 3 (vp p5::.any::.g [] true (.fn 27 [] [(.ptr p7c0)])::vl s8 n8::vl s9 n9::.any::vi i11::rep 41 (vl s53 n53::vi i54::vi i55::rep 95 [])), h⟩ Q = (
 letK (decide (i55 < i54)) fun b56 =>
 if b56 = true then
  (
  chk (true = true → 0 ≤ i55 ∧ i55 < (n53 : Int)) <|
  atP (adP s53) true fun a58 =>
  gCells (ldN h (Ad.add a58 (Int.toNat i55 * 7)) 7) true fun l59 =>
  gL (l59[0]?) true fun s59x0 n59x0 =>
  gI .i64 (l59[1]?) true fun i59x1 =>
  gI .i64 (l59[2]?) true fun i59x2 =>
  gI .i64 (l59[3]?) true fun i59x3 =>
  gI .i64 (l59[4]?) true fun i59x4 =>
  gI .i64 (l59[5]?) true fun i59x5 =>
  gL (l59[6]?) true fun s59x6 n59x6 =>
  chk (true = true → 0 ≤ i55 ∧ i55 < (n8 : Int)) <|
  atP (adP s8) true fun a62 =>
  gL (ld1 h (Ad.add a62 (Int.toNat i55 * 1))) true fun s63 n63 =>
  L9x36 M C i1x0 s1x1 n1x1 i1x2 s1x3 n1x3 p5 p7c0 s8 n8 s9 n9 i11 i55 s59x0 n59x0 i59x1 i59x2 i59x3 i59x4 i59x5 s59x6 n59x6 s53 n53 i54 i55 s63 n63 (n63 : Int) 0 h (Q9x36 M C Q)
  )
 else
  (
  Q (.exit 2) (S9xe2 i1x0 s1x1 n1x1 i1x2 s1x3 n1x3 p5 p7c0 h)
  )
 ) := by kernel_rfl
theorem L9x25xeq : TEq (L9x25 mk0 C i1x0 s1x1 n1x1 i1x2 s1x3 n1x3 p5 p7c0 s8 n8 s9 n9 i11 s53 n53 i54 i55 h Q) (L9x25xaux mk0 C i1x0 s1x1 n1x1 i1x2 s1x3 n1x3 p5 p7c0 s8 n8 s9 n9 i11 s53 n53 i54 i55 h Q) := loop_te (by kernel_rfl)
theorem L9x36xaux : rnd M C k9x36 64626654652766632866 63050394783202210 ⟨.any::.box [(.int .i64 i1x0), (.sl s1x1 n1x1), (.int .i64 i1x2), (.sl s1x3 n1x3)]::rep 3 (vp p5::.any::.g [] true (.fn 27 [] [(.ptr p7c0)])::vl s8 n8::vl s9 n9::.any::vi i11::vi i12::.box [(.sl s13x0 n13x0), (.int .i64 i13x1), (.int .i64 i13x2), (.int .i64 i13x3), (.int .i64 i13x4), (.int .i64 i13x5), (.sl s13x6 n13x6)]::rep 39 (vl s53 n53::vi i54::vi i55::rep 7 (vl s63 n63::vi i64::vi i65::rep 85 []))), h⟩ Q = (
 letK (decide (i65 < i64)) fun b66 =>
 if b66 = true then
  (
  chk (true = true → 0 ≤ i65 ∧ i65 < (n63 : Int)) <|
  atP (adP s63) true fun a68 =>
  gB (ld1 h (Ad.add a68 (Int.toNat i65 * 1))) true fun b69 =>
  if b69 = true then
   (
   (C 27 [(.int .i64 i65), (.int .i64 i11), (.ptr p7c0)] h).bind fun r74 =>
   gT 0 r74.1 true fun u74 =>
   J9x46 M C i1x0 s1x1 n1x1 i1x2 s1x3 n1x3 p5 p7c0 s8 n8 s9 n9 i11 i12 s13x0 n13x0 i13x1 i13x2 i13x3 i13x4 i13x5 s13x6 n13x6 s53 n53 i54 i55 s63 n63 i64 i65 r74.2 Q
   )
  else
   (
   J9x46 M C i1x0 s1x1 n1x1 i1x2 s1x3 n1x3 p5 p7c0 s8 n8 s9 n9 i11 i12 s13x0 n13x0 i13x1 i13x2 i13x3 i13x4 i13x5 s13x6 n13x6 s53 n53 i54 i55 s63 n63 i64 i65 h Q
   )
  )
 else
  (
  Q (.exit 4) (S9xe4 i1x0 s1x1 n1x1 i1x2 s1x3 n1x3 p5 p7c0 s8 n8 s9 n9 i11 i12 s13x0 n13x0 i13x1 i13x2 i13x3 i13x4 i13x5 s13x6 n13x6 s53 n53 i54 i55 h)
  )
 ) := by kernel_rfl
theorem L9x36xeq : TEq (L9x36 mk0 C i1x0 s1x1 n1x1 i1x2 s1x3 n1x3 p5 p7c0 s8 n8 s9 n9 i11 i12 s13x0 n13x0 i13x1 i13x2 i13x3 i13x4 i13x5 s13x6 n13x6 s53 n53 i54 i55 s63 n63 i64 i65 h Q) (L9x36xaux mk0 C i1x0 s1x1 n1x1 i1x2 s1x3 n1x3 p5 p7c0 s8 n8 s9 n9 i11 i12 s13x0 n13x0 i13x1 i13x2 i13x3 i13x4 i13x5 s13x6 n13x6 s53 n53 i54 i55 s63 n63 i64 i65 h Q) := loop_te (by kernel_rfl)
theorem J9x46xaux : (forceK tk (.any::.box [(.int .i64 i1x0), (.sl s1x1 n1x1), (.int .i64 i1x2), (.sl s1x3 n1x3)]::rep 3 (vp p5::.any::.g [] true (.fn 27 [] [(.ptr p7c0)])::vl s8 n8::vl s9 n9::.any::vi i11::vi i12::.box [(.sl s13x0 n13x0), (.int .i64 i13x1), (.int .i64 i13x2), (.int .i64 i13x3), (.int .i64 i13x4), (.int .i64 i13x5), (.sl s13x6 n13x6)]::rep 39 (vl s53 n53::vi i54::vi i55::rep 7 (vl s63 n63::vi i64::vi i65::rep 85 [])))) fun e => (blockQ 5 (seqQ (evalE M C k9x42) (seqQ (evalE M C k9x41) (roundQ M C k9x36 64626654652766632866 63050394783202210 Q)))) .normal ⟨e, h⟩) = (
 letK (IntKind.wrap .i64 (i65 + 1)) fun i75 =>
 L9x36 M C i1x0 s1x1 n1x1 i1x2 s1x3 n1x3 p5 p7c0 s8 n8 s9 n9 i11 i12 s13x0 n13x0 i13x1 i13x2 i13x3 i13x4 i13x5 s13x6 n13x6 s53 n53 i54 i55 s63 n63 i64 i75 h Q
 ) := by kernel_rfl
theorem J9x46xeq : TEq (J9x46 mk0 C i1x0 s1x1 n1x1 i1x2 s1x3 n1x3 p5 p7c0 s8 n8 s9 n9 i11 i12 s13x0 n13x0 i13x1 i13x2 i13x3 i13x4 i13x5 s13x6 n13x6 s53 n53 i54 i55 s63 n63 i64 i65 h Q) (J9x46xaux mk0 C i1x0 s1x1 n1x1 i1x2 s1x3 n1x3 p5 p7c0 s8 n8 s9 n9 i11 i12 s13x0 n13x0 i13x1 i13x2 i13x3 i13x4 i13x5 s13x6 n13x6 s53 n53 i54 i55 s63 n63 i64 i65 h Q) := join_te
theorem X9x25xe2 : Q9x25 M C (.exit 2) (S9xe2 i1x0 s1x1 n1x1 i1x2 s1x3 n1x3 p5 p7c0 h) = (
 L9x98 M C i1x0 s1x1 n1x1 i1x2 s1x3 n1x3 p5 p7c0 s1x1 n1x1 (n1x1 : Int) 0 h (Q9x98 M C)
 ) := by kernel_rfl
theorem L9x98xaux (i1x0 : Int) (s1x1 : SA) (n1x1 : Nat) (i1x2 : Int) (s1x3 : SA) (n1x3 : Nat) (p5 : Option Ad) (p7c0 : Option Ad) (s138 : SA) (n138 : Nat) (i139 i140 : Int) (h : Heap) (Q : Kont R) : rnd M C k9x98 2439144006089286906105469186070914539716770 34 ⟨.any::.box [(.int .i64 i1x0), (.sl s1x1 n1x1), (.int .i64 i1x2), (.sl s1x3 n1x3)]::rep 3 (vp p5::.any::.g [] true (.fn 27 [] [(.ptr p7c0)])::rep 130 (vl s138 n138::vi i139::vi i140::rep 10 [])), h⟩ Q = (
 letK (decide (i140 < i139)) fun b141 =>
 if b141 = true then
  (
  chk (true = true → 0 ≤ i140 ∧ i140 < (n138 : Int)) <|
  atP (adP s138) true fun a142 =>
  gI .i64 (ld1 h (Ad.add a142 (Int.toNat i140 * 1))) true fun i143 =>
  (C 27 [(.int .i64 i143), (.int .i64 0), (.ptr p7c0)] h).bind fun r146 =>
  gT 0 r146.1 true fun u146 =>
  letK (IntKind.wrap .i64 (i140 + 1)) fun i147 =>
  L9x98 M C i1x0 s1x1 n1x1 i1x2 s1x3 n1x3 p5 p7c0 s138 n138 i139 i147 r146.2 Q
  )
 else
  (
  Q (.exit 14) (S9xe14 i1x0 s1x1 n1x1 i1x2 s1x3 n1x3 p5 h)
  )
 ) := by kernel_rfl
theorem L9x98xeq : TEq (L9x98 mk0 C i1x0 s1x1 n1x1 i1x2 s1x3 n1x3 p5 p7c0 s138 n138 i139 i140 h Q) (L9x98xaux mk0 C i1x0 s1x1 n1x1 i1x2 s1x3 n1x3 p5 p7c0 s138 n138 i139 i140 h Q) := loop_te (by kernel_rfl)
theorem X9x36xe4 : Q9x36 M C Q (.exit 4) (S9xe4 i1x0 s1x1 n1x1 i1x2 s1x3 n1x3 p5 p7c0 s8 n8 s9 n9 i11 i12 s13x0 n13x0 i13x1 i13x2 i13x3 i13x4 i13x5 s13x6 n13x6 s53 n53 i54 i55 h) = (
 L9x50 M C i1x0 s1x1 n1x1 i1x2 s1x3 n1x3 p5 p7c0 s8 n8 s9 n9 i11 i12 s13x0 n13x0 i13x1 i13x2 i13x3 i13x4 i13x5 s13x6 n13x6 s53 n53 i54 i55 s13x0 n13x0 (n13x0 : Int) 0 h (Q9x50 M C Q)
 ) := by kernel_rfl
theorem L9x50xaux (i1x0 : Int) (s1x1 : SA) (n1x1 : Nat) (i1x2 : Int) (s1x3 : SA) (n1x3 : Nat) (p5 : Option Ad) (p7c0 : Option Ad) (s8 : SA) (n8 : Nat) (s9 : SA) (n9 : Nat) (i11 i12 : Int) (s13x0 : SA) (n13x0 : Nat) (i13x1 i13x2 : Int) (i13x3 i13x4 i13x5 : Int) (s13x6 : SA) (n13x6 : Nat) (s53 : SA) (n53 : Nat) (i54 i55 : Int) (s77 : SA) (n77 : Nat) (i78 i79 : Int) (h : Heap) (Q : Kont R) : rnd M C k9x50 1057810155213195311070114 63050394783202210 ⟨.any::.box [(.int .i64 i1x0), (.sl s1x1 n1x1), (.int .i64 i1x2), (.sl s1x3 n1x3)]::rep 3 (vp p5::.any::.g [] true (.fn 27 [] [(.ptr p7c0)])::vl s8 n8::vl s9 n9::.any::vi i11::vi i12::.box [(.sl s13x0 n13x0), (.int .i64 i13x1), (.int .i64 i13x2), (.int .i64 i13x3), (.int .i64 i13x4), (.int .i64 i13x5), (.sl s13x6 n13x6)]::rep 39 (vl s53 n53::vi i54::vi i55::rep 21 (vl s77 n77::vi i78::vi i79::rep 71 []))), h⟩ Q = (
 letK (decide (i79 < i78)) fun b80 =>
 if b80 = true then
  (
  chk (true = true → 0 ≤ i79 ∧ i79 < (n77 : Int)) <|
  atP (adP s77) true fun a81 =>
  gCells (ldN h (Ad.add a81 (Int.toNat i79 * 6)) 6) true fun l82 =>
  gI .i64 (l82[0]?) true fun i82x0 =>
  gI .i64 (l82[1]?) true fun i82x1 =>
  gI .i64 (l82[2]?) true fun i82x2 =>
  gI .i64 (l82[3]?) true fun i82x3 =>
  gI .i64 (l82[4]?) true fun i82x4 =>
  gL (l82[5]?) true fun s82x5 n82x5 =>
  (C 29 [(.agg [(.int .i64 i82x0), (.int .i64 i82x1), (.int .i64 i82x2), (.int .i64 i82x3), (.int .i64 i82x4), (.sl s82x5 n82x5)])] h).bind fun r84 =>
  gL (some r84.1) true fun s84 n84 =>
  L9x61 M C i1x0 s1x1 n1x1 i1x2 s1x3 n1x3 p5 p7c0 s8 n8 s9 n9 i11 i12 s13x0 n13x0 i13x1 i13x2 i13x3 i13x4 i13x5 s13x6 n13x6 i82x0 i82x1 i82x2 i82x3 i82x4 s82x5 n82x5 s53 n53 i54 i55 s77 n77 i78 i79 s84 n84 (n84 : Int) 0 r84.2 (Q9x61 M C Q)
  )
 else
  (
  Q (.exit 6) (S9xe6 i1x0 s1x1 n1x1 i1x2 s1x3 n1x3 p5 p7c0 s8 n8 s9 n9 i11 i12 s13x0 n13x0 i13x1 i13x2 i13x3 i13x4 i13x5 s13x6 n13x6 s53 n53 i54 i55 h)
  )
 ) := by kernel_rfl
theorem L9x50xeq : TEq (L9x50 mk0 C i1x0 s1x1 n1x1 i1x2 s1x3 n1x3 p5 p7c0 s8 n8 s9 n9 i11 i12 s13x0 n13x0 i13x1 i13x2 i13x3 i13x4 i13x5 s13x6 n13x6 s53 n53 i54 i55 s77 n77 i78 i79 h Q) (L9x50xaux mk0 C i1x0 s1x1 n1x1 i1x2 s1x3 n1x3 p5 p7c0 s8 n8 s9 n9 i11 i12 s13x0 n13x0 i13x1 i13x2 i13x3 i13x4 i13x5 s13x6 n13x6 s53 n53 i54 i55 s77 n77 i78 i79 h Q) := loop_te (by kernel_rfl)
theorem L9x61xaux (i1x0 : Int) (s1x1 : SA) (n1x1 : Nat) (i1x2 : Int) (s1x3 : SA) (n1x3 : Nat) (p5 : Option Ad) (p7c0 : Option Ad) (s8 : SA) (n8 : Nat) (s9 : SA) (n9 : Nat) (i11 i12 : Int) (s13x0 : SA) (n13x0 : Nat) (i13x1 i13x2 : Int) (i13x3 i13x4 i13x5 : Int) (s13x6 : SA) (n13x6 : Nat) (i17x0 i17x1 : Int) (i17x2 i17x3 i17x4 : Int) (s17x5 : SA) (n17x5 : Nat) (s53 : SA) (n53 : Nat) (i54 i55 : Int) (s77 : SA) (n77 : Nat) (i78 i79 : Int) (s84 : SA) (n84 : Nat) (i85 i86 : Int) (h : Heap) (Q : Kont R) : rnd M C k9x61 136457501952051662878292898 1057810155213195311201186 ⟨.any::.box [(.int .i64 i1x0), (.sl s1x1 n1x1), (.int .i64 i1x2), (.sl s1x3 n1x3)]::rep 3 (vp p5::.any::.g [] true (.fn 27 [] [(.ptr p7c0)])::vl s8 n8::vl s9 n9::.any::vi i11::vi i12::.box [(.sl s13x0 n13x0), (.int .i64 i13x1), (.int .i64 i13x2), (.int .i64 i13x3), (.int .i64 i13x4), (.int .i64 i13x5), (.sl s13x6 n13x6)]::rep 3 (.box [(.int .i64 i17x0), (.int .i64 i17x1), (.int .i64 i17x2), (.int .i64 i17x3), (.int .i64 i17x4), (.sl s17x5 n17x5)]::rep 35 (vl s53 n53::vi i54::vi i55::rep 21 (vl s77 n77::vi i78::vi i79::rep 4 (vl s84 n84::vi i85::vi i86::rep 64 []))))), h⟩ Q = (
 letK (decide (i86 < i85)) fun b87 =>
 if b87 = true then
  (
  chk (true = true → 0 ≤ i86 ∧ i86 < (n84 : Int)) <|
  atP (adP s84) true fun a88 =>
  gI .i64 (ld1 h (Ad.add a88 (Int.toNat i86 * 1))) true fun i89 =>
  (C 27 [(.int .i64 i89), (.int .i64 i11), (.ptr p7c0)] h).bind fun r93 =>
  gT 0 r93.1 true fun u93 =>
  letK (IntKind.wrap .i64 (i86 + 1)) fun i94 =>
  L9x61 M C i1x0 s1x1 n1x1 i1x2 s1x3 n1x3 p5 p7c0 s8 n8 s9 n9 i11 i12 s13x0 n13x0 i13x1 i13x2 i13x3 i13x4 i13x5 s13x6 n13x6 i17x0 i17x1 i17x2 i17x3 i17x4 s17x5 n17x5 s53 n53 i54 i55 s77 n77 i78 i79 s84 n84 i85 i94 r93.2 Q
  )
 else
  (
  Q (.exit 8) (S9xe8 i1x0 s1x1 n1x1 i1x2 s1x3 n1x3 p5 p7c0 s8 n8 s9 n9 i11 i12 s13x0 n13x0 i13x1 i13x2 i13x3 i13x4 i13x5 s13x6 n13x6 i17x0 i17x1 i17x2 i17x3 i17x4 s17x5 n17x5 s53 n53 i54 i55 s77 n77 i78 i79 h)
  )
 ) := by kernel_rfl
theorem L9x61xeq : TEq (L9x61 mk0 C i1x0 s1x1 n1x1 i1x2 s1x3 n1x3 p5 p7c0 s8 n8 s9 n9 i11 i12 s13x0 n13x0 i13x1 i13x2 i13x3 i13x4 i13x5 s13x6 n13x6 i17x0 i17x1 i17x2 i17x3 i17x4 s17x5 n17x5 s53 n53 i54 i55 s77 n77 i78 i79 s84 n84 i85 i86 h Q) (L9x61xaux mk0 C i1x0 s1x1 n1x1 i1x2 s1x3 n1x3 p5 p7c0 s8 n8 s9 n9 i11 i12 s13x0 n13x0 i13x1 i13x2 i13x3 i13x4 i13x5 s13x6 n13x6 i17x0 i17x1 i17x2 i17x3 i17x4 s17x5 n17x5 s53 n53 i54 i55 s77 n77 i78 i79 s84 n84 i85 i86 h Q) := loop_te (by kernel_rfl)
theorem X9x98xe14 (i1x0 : Int) (s1x1 : SA) (n1x1 : Nat) (i1x2 : Int) (s1x3 : SA) (n1x3 : Nat) (p5 : Option Ad) (h : Heap) : Q9x98 M C (.exit 14) (S9xe14 i1x0 s1x1 n1x1 i1x2 s1x3 n1x3 p5 h) = (
 atP p5 true fun a149 =>
 gL (ld1 h a149) true fun s149 n149 =>
 (C 32 [(.agg [(.int .i64 i1x0), (.sl s1x1 n1x1), (.int .i64 i1x2), (.sl s1x3 n1x3)]), (.sl s149 n149)] h).bind fun r150 =>
 gL (some r150.1) true fun s150 n150 =>
 some (.tup [(.sl s150 n150), (.int .i64 0)], r150.2)
 ) := by kernel_rfl
theorem X9x50xe6 (i1x0 : Int) (s1x1 : SA) (n1x1 : Nat) (i1x2 : Int) (s1x3 : SA) (n1x3 : Nat) (p5 : Option Ad) (p7c0 : Option Ad) (s8 : SA) (n8 : Nat) (s9 : SA) (n9 : Nat) (i11 i12 : Int) (s13x0 : SA) (n13x0 : Nat) (i13x1 i13x2 : Int) (i13x3 i13x4 i13x5 : Int) (s13x6 : SA) (n13x6 : Nat) (s53 : SA) (n53 : Nat) (i54 i55 : Int) (h : Heap) (Q : Kont R) : Q9x50 M C Q (.exit 6) (S9xe6 i1x0 s1x1 n1x1 i1x2 s1x3 n1x3 p5 p7c0 s8 n8 s9 n9 i11 i12 s13x0 n13x0 i13x1 i13x2 i13x3 i13x4 i13x5 s13x6 n13x6 s53 n53 i54 i55 h) = (
 (C 31 [(.agg [(.int .i64 i13x1), (.int .i64 i13x2), (.int .i64 i13x3), (.int .i64 i13x4), (.int .i64 i13x5), (.sl s13x6 n13x6)])] h).bind fun r106 =>
 gL (some r106.1) true fun s106 n106 =>
 L9x73 M C i1x0 s1x1 n1x1 i1x2 s1x3 n1x3 p5 p7c0 s8 n8 s9 n9 i11 i12 s53 n53 i54 i55 s106 n106 (n106 : Int) 0 r106.2 (Q9x73 M C Q)
 ) := by kernel_rfl
theorem L9x73xaux (i1x0 : Int) (s1x1 : SA) (n1x1 : Nat) (i1x2 : Int) (s1x3 : SA) (n1x3 : Nat) (p5 : Option Ad) (p7c0 : Option Ad) (s8 : SA) (n8 : Nat) (s9 : SA) (n9 : Nat) (i11 i12 : Int) (s53 : SA) (n53 : Nat) (i54 i55 : Int) (s106 : SA) (n106 : Nat) (i107 i108 : Int) (h : Heap) (Q : Kont R) : rnd M C k9x73 567907468902246834920917819202466 63050394783194018 ⟨.any::.box [(.int .i64 i1x0), (.sl s1x1 n1x1), (.int .i64 i1x2), (.sl s1x3 n1x3)]::rep 3 (vp p5::.any::.g [] true (.fn 27 [] [(.ptr p7c0)])::vl s8 n8::vl s9 n9::.any::vi i11::vi i12::rep 40 (vl s53 n53::vi i54::vi i55::rep 50 (vl s106 n106::vi i107::vi i108::rep 42 []))), h⟩ Q = (
 letK (decide (i108 < i107)) fun b109 =>
 if b109 = true then
  (
  chk (true = true → 0 ≤ i108 ∧ i108 < (n106 : Int)) <|
  atP (adP s106) true fun a110 =>
  gI .i64 (ld1 h (Ad.add a110 (Int.toNat i108 * 1))) true fun i111 =>
  (C 27 [(.int .i64 i111), (.int .i64 i11), (.ptr p7c0)] h).bind fun r115 =>
  gT 0 r115.1 true fun u115 =>
  letK (IntKind.wrap .i64 (i108 + 1)) fun i116 =>
  L9x73 M C i1x0 s1x1 n1x1 i1x2 s1x3 n1x3 p5 p7c0 s8 n8 s9 n9 i11 i12 s53 n53 i54 i55 s106 n106 i107 i116 r115.2 Q
  )
 else
  (
  Q (.exit 10) (S9xe10 i1x0 s1x1 n1x1 i1x2 s1x3 n1x3 p5 p7c0 s8 n8 s9 n9 i11 i12 s53 n53 i54 i55 h)
  )
 ) := by kernel_rfl
theorem L9x73xeq : TEq (L9x73 mk0 C i1x0 s1x1 n1x1 i1x2 s1x3 n1x3 p5 p7c0 s8 n8 s9 n9 i11 i12 s53 n53 i54 i55 s106 n106 i107 i108 h Q) (L9x73xaux mk0 C i1x0 s1x1 n1x1 i1x2 s1x3 n1x3 p5 p7c0 s8 n8 s9 n9 i11 i12 s53 n53 i54 i55 s106 n106 i107 i108 h Q) := loop_te (by kernel_rfl)
theorem X9x61xe8 (i1x0 : Int) (s1x1 : SA) (n1x1 : Nat) (i1x2 : Int) (s1x3 : SA) (n1x3 : Nat) (p5 : Option Ad) (p7c0 : Option Ad) (s8 : SA) (n8 : Nat) (s9 : SA) (n9 : Nat) (i11 i12 : Int) (s13x0 : SA) (n13x0 : Nat) (i13x1 i13x2 : Int) (i13x3 i13x4 i13x5 : Int) (s13x6 : SA) (n13x6 : Nat) (i17x0 i17x1 : Int) (i17x2 i17x3 i17x4 : Int) (s17x5 : SA) (n17x5 : Nat) (s53 : SA) (n53 : Nat) (i54 i55 : Int) (s77 : SA) (n77 : Nat) (i78 i79 : Int) (h : Heap) (Q : Kont R) : Q9x61 M C Q (.exit 8) (S9xe8 i1x0 s1x1 n1x1 i1x2 s1x3 n1x3 p5 p7c0 s8 n8 s9 n9 i11 i12 s13x0 n13x0 i13x1 i13x2 i13x3 i13x4 i13x5 s13x6 n13x6 i17x0 i17x1 i17x2 i17x3 i17x4 s17x5 n17x5 s53 n53 i54 i55 s77 n77 i78 i79 h) = (
 (C 30 [(.agg [(.int .i64 i17x0), (.int .i64 i17x1), (.int .i64 i17x2), (.int .i64 i17x3), (.int .i64 i17x4), (.sl s17x5 n17x5)])] h).bind fun r97 =>
 gI .i64 (some r97.1) true fun i97 =>
 letK (IntKind.wrap .i64 (i11 + 1)) fun i99 =>
 (C 27 [(.int .i64 i97), (.int .i64 i99), (.ptr p7c0)] r97.2).bind fun r100 =>
 gT 0 r100.1 true fun u100 =>
 letK (IntKind.wrap .i64 (i11 + 2)) fun i102 =>
 letK (IntKind.wrap .i64 (i79 + 1)) fun i103 =>
 L9x50 M C i1x0 s1x1 n1x1 i1x2 s1x3 n1x3 p5 p7c0 s8 n8 s9 n9 i102 i12 s13x0 n13x0 i13x1 i13x2 i13x3 i13x4 i13x5 s13x6 n13x6 s53 n53 i54 i55 s77 n77 i78 i103 r100.2 Q
 ) := by kernel_rfl
theorem X9x73xe10 (i1x0 : Int) (s1x1 : SA) (n1x1 : Nat) (i1x2 : Int) (s1x3 : SA) (n1x3 : Nat) (p5 : Option Ad) (p7c0 : Option Ad) (s8 : SA) (n8 : Nat) (s9 : SA) (n9 : Nat) (i11 i12 : Int) (s53 : SA) (n53 : Nat) (i54 i55 : Int) (h : Heap) (Q : Kont R) : Q9x73 M C Q (.exit 10) (S9xe10 i1x0 s1x1 n1x1 i1x2 s1x3 n1x3 p5 p7c0 s8 n8 s9 n9 i11 i12 s53 n53 i54 i55 h) = (
 chk (true = true → 0 ≤ i12 ∧ i12 < (n9 : Int)) <|
 atP (adP s9) true fun a119 =>
 gL (ld1 h (Ad.add a119 (Int.toNat i12 * 1))) true fun s120 n120 =>
 L9x84 M C i1x0 s1x1 n1x1 i1x2 s1x3 n1x3 p5 p7c0 s8 n8 s9 n9 i11 s53 n53 i54 i55 s120 n120 (n120 : Int) 0 h (Q9x84 M C Q)
 ) := by kernel_rfl
theorem L9x84xaux (i1x0 : Int) (s1x1 : SA) (n1x1 : Nat) (i1x2 : Int) (s1x3 : SA) (n1x3 : Nat) (p5 : Option Ad) (p7c0 : Option Ad) (s8 : SA) (n8 : Nat) (s9 : SA) (n9 : Nat) (i11 : Int) (s53 : SA) (n53 : Nat) (i54 i55 : Int) (s120 : SA) (n120 : Nat) (i121 i122 : Int) (h : Heap) (Q : Kont R) : rnd M C k9x84 9304595970494411110389699816745601954 63050394783189922 ⟨.any::.box [(.int .i64 i1x0), (.sl s1x1 n1x1), (.int .i64 i1x2), (.sl s1x3 n1x3)]::rep 3 (vp p5::.any::.g [] true (.fn 27 [] [(.ptr p7c0)])::vl s8 n8::vl s9 n9::.any::vi i11::rep 41 (vl s53 n53::vi i54::vi i55::rep 64 (vl s120 n120::vi i121::vi i122::rep 28 []))), h⟩ Q = (
 letK (decide (i122 < i121)) fun b123 =>
 if b123 = true then
  (
  chk (true = true → 0 ≤ i122 ∧ i122 < (n120 : Int)) <|
  atP (adP s120) true fun a125 =>
  gB (ld1 h (Ad.add a125 (Int.toNat i122 * 1))) true fun b126 =>
  if b126 = true then
   (
   letK (IntKind.wrap .i64 (i11 + 1)) fun i131 =>
   (C 27 [(.int .i64 i122), (.int .i64 i131), (.ptr p7c0)] h).bind fun r132 =>
   gT 0 r132.1 true fun u132 =>
   J9x94 M C i1x0 s1x1 n1x1 i1x2 s1x3 n1x3 p5 p7c0 s8 n8 s9 n9 i11 s53 n53 i54 i55 s120 n120 i121 i122 r132.2 Q
   )
  else
   (
   J9x94 M C i1x0 s1x1 n1x1 i1x2 s1x3 n1x3 p5 p7c0 s8 n8 s9 n9 i11 s53 n53 i54 i55 s120 n120 i121 i122 h Q
   )
  )
 else
  (
  Q (.exit 12) (S9xe12 i1x0 s1x1 n1x1 i1x2 s1x3 n1x3 p5 p7c0 s8 n8 s9 n9 i11 s53 n53 i54 i55 h)
  )
 ) := by kernel_rfl
theorem L9x84xeq : TEq (L9x84 mk0 C i1x0 s1x1 n1x1 i1x2 s1x3 n1x3 p5 p7c0 s8 n8 s9 n9 i11 s53 n53 i54 i55 s120 n120 i121 i122 h Q) (L9x84xaux mk0 C i1x0 s1x1 n1x1 i1x2 s1x3 n1x3 p5 p7c0 s8 n8 s9 n9 i11 s53 n53 i54 i55 s120 n120 i121 i122 h Q) := loop_te (by kernel_rfl)
theorem J9x94xaux (M : Mk) (C : Cal) (i1x0 : Int) (s1x1 : SA) (n1x1 : Nat) (i1x2 : Int) (s1x3 : SA) (n1x3 : Nat) (p5 : Option Ad) (p7c0 : Option Ad) (s8 : SA) (n8 : Nat) (s9 : SA) (n9 : Nat) (i11 : Int) (s53 : SA) (n53 : Nat) (i54 i55 : Int) (s120 : SA) (n120 : Nat) (i121 i122 : Int) (h : Heap) (Q : Kont R) : (forceK tk (.any::.box [(.int .i64 i1x0), (.sl s1x1 n1x1), (.int .i64 i1x2), (.sl s1x3 n1x3)]::rep 3 (vp p5::.any::.g [] true (.fn 27 [] [(.ptr p7c0)])::vl s8 n8::vl s9 n9::.any::vi i11::rep 41 (vl s53 n53::vi i54::vi i55::rep 64 (vl s120 n120::vi i121::vi i122::rep 28 [])))) fun e => (blockQ 13 (seqQ (evalE M C k9x90) (seqQ (evalE M C k9x89) (roundQ M C k9x84 9304595970494411110389699816745601954 63050394783189922 Q)))) .normal ⟨e, h⟩) = (
 letK (IntKind.wrap .i64 (i122 + 1)) fun i133 =>
 L9x84 M C i1x0 s1x1 n1x1 i1x2 s1x3 n1x3 p5 p7c0 s8 n8 s9 n9 i11 s53 n53 i54 i55 s120 n120 i121 i133 h Q
 ) := by kernel_rfl
theorem J9x94xeq : TEq (J9x94 mk0 C i1x0 s1x1 n1x1 i1x2 s1x3 n1x3 p5 p7c0 s8 n8 s9 n9 i11 s53 n53 i54 i55 s120 n120 i121 i122 h Q) (J9x94xaux mk0 C i1x0 s1x1 n1x1 i1x2 s1x3 n1x3 p5 p7c0 s8 n8 s9 n9 i11 s53 n53 i54 i55 s120 n120 i121 i122 h Q) := join_te
theorem X9x84xe12 (i1x0 : Int) (s1x1 : SA) (n1x1 : Nat) (i1x2 : Int) (s1x3 : SA) (n1x3 : Nat) (p5 : Option Ad) (p7c0 : Option Ad) (s8 : SA) (n8 : Nat) (s9 : SA) (n9 : Nat) (i11 : Int) (s53 : SA) (n53 : Nat) (i54 i55 : Int) (h : Heap) (Q : Kont R) : Q9x84 M C Q (.exit 12) (S9xe12 i1x0 s1x1 n1x1 i1x2 s1x3 n1x3 p5 p7c0 s8 n8 s9 n9 i11 s53 n53 i54 i55 h) = (
 letK (IntKind.wrap .i64 (i11 + 2)) fun i135 =>
 letK (IntKind.wrap .i64 (i55 + 1)) fun i136 =>
 L9x25 M C i1x0 s1x1 n1x1 i1x2 s1x3 n1x3 p5 p7c0 s8 n8 s9 n9 i135 s53 n53 i54 i136 h Q
 ) := by kernel_rfl
end
end
end Go.Proofs.Ytnmdadadjneaiaa.D
