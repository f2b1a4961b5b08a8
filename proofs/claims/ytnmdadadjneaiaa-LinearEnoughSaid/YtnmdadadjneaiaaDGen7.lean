/- Parts of the proof, printed. -/
import Derived.Test.YtnmdadadjneaiaaLibD
import Derived.Test.YtnmdadadjneaiaaDGen6
import Derived.KernelRfl
set_option linter.unusedVariables false
set_option maxRecDepth 100000
namespace Go.Proofs.Ytnmdadadjneaiaa.D
open Go Go.Proofs.Ytnmdadadjneaiaa.Abs Abs.Sh Go.Proofs
section
variable {R : Type} (M : Mk) (C : Cal)
noncomputable section
variable (s0 : SA) (n0 : Nat) (v1 : AV) (i4 i7 i8 : Int) (h : Heap) (Q : Kont R)
def S70xr : St := ⟨rep 4 (vi i4::rep 14 []), h⟩
def S70xe0 : St := ⟨(rep 19 []), h⟩
def Q70x4 (M : Mk) (C : Cal) : Kont (AV × Heap) := (blockQ 0 (seqQ (evalE M C k70x3) (seqQ (evalE M C k70x1) (endQ [.tmp 4]))))
def L70x4 : Option R := loopE (evalE M C k70x4) 387 0 ⟨vl s0 n0::.g [] true v1::rep 5 (vi i7::vi i8::rep 10 []), h⟩ Q
theorem r70 : runE M C c70 [(.sl s0 n0), v1] h = (
 L70x4 M C s0 n0 v1 (n0 : Int) 0 h (Q70x4 M C)
 ) := by kernel_rfl
theorem e70 : TEq (E 70 [(.sl s0 n0), v1] h) (r70 mk0 E s0 n0 v1 h) := (EV_eq (P := Try.prog) (T := T0) rfl cf70 _ h).trans (r70 mk0 E s0 n0 v1 h)
theorem L70x4xaux : rnd M C k70x4 387 0 ⟨vl s0 n0::.g [] true v1::rep 5 (vi i7::vi i8::rep 10 []), h⟩ Q = (
 letK (decide (i8 < i7)) fun b9 =>
 if b9 = true then
  (
  chk (true = true → 0 ≤ i8 ∧ i8 < (n0 : Int)) <|
  atP (adP s0) true fun a14 =>
  gCells (ldN h (Ad.add a14 (Int.toNat i8 * 4)) 4) true fun l15 =>
  gI .i64 (l15[0]?) true fun i15x0 =>
  gI .i64 (l15[1]?) true fun i15x1 =>
  gI .i64 (l15[2]?) true fun i15x2 =>
  gB (l15[3]?) true fun b15x3 =>
  fnK v1 fun f16 a16 c16 =>
  (C f16 (a16 ++ [(.agg [(.int .i64 i15x0), (.int .i64 i15x1), (.int .i64 i15x2), (.bool b15x3)])] ++ c16) h).bind fun r16 =>
  gB (some r16.1) true fun b16 =>
  if b16 = true then
   (
   Q .ret (S70xr i8 r16.2)
   )
  else
   (
   letK (IntKind.wrap .i64 (i8 + 1)) fun i18 =>
   L70x4 M C s0 n0 v1 i7 i18 r16.2 Q
   )
  )
 else
  (
  Q (.exit 0) (S70xe0 h)
  )
 ) := by kernel_rfl
theorem L70x4xeq : TEq (L70x4 mk0 C s0 n0 v1 i7 i8 h Q) (L70x4xaux mk0 C s0 n0 v1 i7 i8 h Q) := loop_te (by kernel_rfl)
theorem X70x4xr : Q70x4 M C .ret (S70xr i4 h) = (
 some ((.int .i64 i4), h)
 ) := by kernel_rfl
theorem X70x4xe0 : Q70x4 M C (.exit 0) (S70xe0 h) = (
 some ((.int .i64 (-1)), h)
 ) := by kernel_rfl
end
noncomputable section
def k72x2:=AC.ret
def k72x1:=sq (.mask 8) k72x2
def k72x0:=sq (of [
 mv 4 0,
 fa 5 1 1,
 li 6 5,
 bt 7 .lss 4 6,
 mv 3 7]) k72x1
end
noncomputable section
variable (i0 : Int) (p1 : Option Ad) (h : Heap)
def c72 : AFn := ⟨8, [.tmp 3],
 .seq (of [
 o 3 (.move (.c (.bool false)))]) k72x0⟩
theorem r72 : runE M C c72 [(.int .i64 i0), (.ptr p1)] h = (
 atP p1 true fun a5 =>
 gI .i64 (ld1 h (Ad.add a5 1)) true fun i6 =>
 letK (decide (i0 < i6)) fun b7 =>
 some ((.bool b7), h)
 ) := by kernel_rfl
theorem cf72 : cFn Try.prog 72 = some c72 := by kernel_rfl
theorem e72 : TEq (E 72 [(.int .i64 i0), (.ptr p1)] h) (r72 mk0 E i0 p1 h) := (EV_eq (P := Try.prog) (T := T0) rfl cf72 _ h).trans (r72 mk0 E i0 p1 h)
end
noncomputable section
variable (s0 : SA) (n0 : Nat) (v1 : AV) (h : Heap)
theorem r73 : runE M C c73 [(.sl s0 n0), v1] h = (
 (C 70 [(.sl s0 n0), v1] h).bind fun r7 =>
 gI .i64 (some r7.1) true fun i7 =>
 letK (decide (0 ≤ i7)) fun b8 =>
 some ((.bool b8), r7.2)
 ) := by kernel_rfl
theorem e73 : TEq (E 73 [(.sl s0 n0), v1] h) (r73 mk0 E s0 n0 v1 h) := (EV_eq (P := Try.prog) (T := T0) rfl cf73 _ h).trans (r73 mk0 E s0 n0 v1 h)
end
noncomputable section
variable (i0x0 i0x1 i0x2 : Int) (b0x3 : Bool) (p1 p2 : Option Ad) (h : Heap)
theorem r74 : runE M C c74 [(.agg [(.int .i64 i0x0), (.int .i64 i0x1), (.int .i64 i0x2), (.bool b0x3)]), (.ptr p1), (.ptr p2)] h = (
 atP p1 true fun a5 =>
 gP (ld1 h a5) true fun p5 =>
 atP p5 true fun a6 =>
 gL (ld1 h (Ad.add (Ad.add a6 0) 0)) true fun s9 n9 =>
 chk (true = true → 0 ≤ i0x0 ∧ i0x0 < (n9 : Int)) <|
 atP (adP s9) true fun a12 =>
 gI .i64 (ld1 h (Ad.add a12 (Int.toNat i0x0 * 1))) true fun i13 =>
 atP p2 true fun a14 =>
 gI .i64 (ld1 h a14) true fun i14 =>
 letK (decide (i13 = i14)) fun b15 =>
 some ((.bool b15), h)
 ) := by kernel_rfl
theorem e74 : TEq (E 74 [(.agg [(.int .i64 i0x0), (.int .i64 i0x1), (.int .i64 i0x2), (.bool b0x3)]), (.ptr p1), (.ptr p2)] h) (r74 mk0 E i0x0 i0x1 i0x2 b0x3 p1 p2 h) := (EV_eq (P := Try.prog) (T := T0) rfl cf74 _ h).trans (r74 mk0 E i0x0 i0x1 i0x2 b0x3 p1 p2 h)
end
noncomputable section
variable (i0x0 i0x1 i0x2 : Int) (b0x3 : Bool) (p1 : Option Ad) (h : Heap)
theorem r75 : runE M C c75 [(.agg [(.int .i64 i0x0), (.int .i64 i0x1), (.int .i64 i0x2), (.bool b0x3)]), (.ptr p1)] h = (
 atP p1 true fun a6 =>
 gI .i64 (ld1 h (Ad.add a6 2)) true fun i7 =>
 letK (decide (i7 < i0x2)) fun b8 =>
 some ((.bool b8), h)
 ) := by kernel_rfl
theorem e75 : TEq (E 75 [(.agg [(.int .i64 i0x0), (.int .i64 i0x1), (.int .i64 i0x2), (.bool b0x3)]), (.ptr p1)] h) (r75 mk0 E i0x0 i0x1 i0x2 b0x3 p1 h) := (EV_eq (P := Try.prog) (T := T0) rfl cf75 _ h).trans (r75 mk0 E i0x0 i0x1 i0x2 b0x3 p1 h)
end
noncomputable section
def k36x5:=of [
 mv 18 0,
 mv 19 0,
 nc 20 19,
 fa 21 4 20,
 ls 22 21,
 o 23 (.buildSl [(.int .i64 0)] 1 [(0, (c 0))]),
 o 24 (.append [(.int .i64 0)] 1 8 (t 22) (t 23)),
 nc 25 18,
 fa 26 4 25,
 u (.store 1 (t 26) (t 24))]
def k36x4:=AC.join 25
def k36x3:=sq (.cond (.tmp 12)
 (.seq (of [
 mv 13 0,
 nc 14 13,
 fa 15 4 14,
 ls 16 15,
 ln 17 16,
 mv 4 17]) k36x5)
  (.skip)) k36x4
def k36x7:=of [
 mv 35 0,
 nc 36 35,
 fa 37 0 36,
 fa 38 0 37,
 ls 39 38,
 fa 40 0 3,
 li 41 40,
 mv 42 0,
 nc 43 42,
 fa 44 0 43,
 fa 45 1 44,
 ls 46 45,
 fa 47 0 3,
 li 48 47,
 mv 49 4,
 ia 50 1 39 41,
  ⟨none, .store 1 (.tmp 50) (.c (.int .i64 (-1))), none, [.load 1 47 none]⟩,
 ia 51 1 46 48,
 u (.store 1 (t 51) (t 49))]
def k36x2:=sq (of [
 mv 27 0,
 nc 28 27,
 fa 29 4 28,
 ls 30 29,
 mv 31 4,
 fa 32 2 3,
 li 33 32,
 ia 34 1 30 31,
 u (.store 1 (t 34) (t 33))]) k36x7
def k36x1:=sq (.seq (of [
 mv 11 4,
 bc 12 .lss 11 0]) k36x3) k36x2
def k36x0:=sq (of [
 mv 5 0,
 nc 6 5,
 fa 7 4 6,
 ls 8 7,
 o 9 (.makeFn 72 [] [(t 3)]),
 o 10 (.call 71 [(t 8), (t 9)] [I] (.int .i64 0)),
 mv 4 10]) k36x1
end
noncomputable section
variable (p0 : Option Ad) (i1x0 i1x1 i1x2 : Int) (b1x3 : Bool) (p3 : Option Ad) (i4 : Int) (h : Heap)
def c36 : AFn := ⟨52, [],
 .seq (of [
 o 3 (.boxH (t 1))]) k36x0⟩
def J36x6 : Res := M (AV × Heap) (seqQ (evalE M C k36x2) (endQ [])) (vp p0 :: (.any :: .any :: (vp p3::vi i4::rep 47 []))) h
theorem r36 : runE M C c36 [(.ptr p0), (.agg [(.int .i64 i1x0), (.int .i64 i1x1), (.int .i64 i1x2), (.bool b1x3)])] h = (
 newK h (.cells [(.int .i64 i1x0), (.int .i64 i1x1), (.int .i64 i1x2), (.bool b1x3)] .fix 0) fun h_2 =>
 atP p0 true fun a6 =>
 gL (ld1 h_2 (Ad.add a6 4)) true fun s8 n8 =>
 (C 71 [(.sl s8 n8), (.fn 72 [] [(.ptr (some ⟨List.length h, 0, 0⟩))])] h_2).bind fun r10 =>
 gI .i64 (some r10.1) true fun i10 =>
 letK (decide (i10 < 0)) fun b12 =>
 if b12 = true then
  (
  atP p0 true fun a14 =>
  gL (ld1 r10.2 (Ad.add a14 4)) true fun s16 n16 =>
  atP p0 true fun a20 =>
  gL (ld1 r10.2 (Ad.add a20 4)) true fun s22 n22 =>
  newK r10.2 (.cells [(.int .i64 0)] (.grow 1) 0) fun h_3 =>
  (ldSl h_3 (.pos ⟨List.length r10.2, 0, 0⟩) (1 * 1)).bind fun y24 =>
  (apnd h_3 (.sl s22 n22) 1 8 y24 1).bind fun r24 =>
  gL (some r24.1) true fun s24 n24 =>
  atP p0 true fun a25 =>
  (st1 r24.2 (Ad.add a25 4) (.sl s24 n24)).bind fun h_4 =>
  J36x6 M C p0 (some ⟨List.length h, 0, 0⟩) (n16 : Int) h_4
  )
 else
  (
  J36x6 M C p0 (some ⟨List.length h, 0, 0⟩) i10 r10.2
  )
 ) := by kernel_rfl
theorem cf36 : cFn Try.prog 36 = some c36 := by kernel_rfl
theorem e36 : TEq (E 36 [(.ptr p0), (.agg [(.int .i64 i1x0), (.int .i64 i1x1), (.int .i64 i1x2), (.bool b1x3)])] h) (r36 mk0 E p0 i1x0 i1x1 i1x2 b1x3 h) := (EV_eq (P := Try.prog) (T := T0) rfl cf36 _ h).trans (r36 mk0 E p0 i1x0 i1x1 i1x2 b1x3 h)
theorem J36x6xaux : (forceK tk (vp p0 :: (.any :: .any :: (vp p3::vi i4::rep 47 []))) fun e => (seqQ (evalE M C k36x2) (endQ [])) .normal ⟨e, h⟩) = (
 atP p0 true fun a28 =>
 gL (ld1 h (Ad.add a28 4)) true fun s30 n30 =>
 atP p3 true fun a32 =>
 gI .i64 (ld1 h (Ad.add a32 2)) true fun i33 =>
 chk (true = true → 0 ≤ i4 ∧ i4 < (n30 : Int)) <|
 atP (adP s30) true fun a34 =>
 (st1 h (Ad.add a34 (Int.toNat i4 * 1)) (.int .i64 i33)).bind fun h_2 =>
 atP p0 true fun a36 =>
 gL (ld1 h_2 (Ad.add (Ad.add a36 0) 0)) true fun s39 n39 =>
 atP p3 true fun a40 =>
 gI .i64 (ld1 h_2 (Ad.add a40 0)) true fun i41 =>
 atP p0 true fun a43 =>
 gL (ld1 h_2 (Ad.add (Ad.add a43 0) 1)) true fun s46 n46 =>
 atP p3 true fun a47 =>
 gI .i64 (ld1 h_2 (Ad.add a47 0)) true fun i48 =>
 chk (true = true → 0 ≤ i41 ∧ i41 < (n39 : Int)) <|
 atP (adP s39) true fun a50 =>
 (st1 h_2 (Ad.add a50 (Int.toNat i41 * 1)) (.int .i64 (-1))).bind fun h_3 =>
 chkC (true = true → ldN h_3 (Ad.add a47 0) 1 = ldN h_2 (Ad.add a47 0) 1) <|
 chk (true = true → 0 ≤ i48 ∧ i48 < (n46 : Int)) <|
 atP (adP s46) true fun a51 =>
 (st1 h_3 (Ad.add a51 (Int.toNat i48 * 1)) (.int .i64 i4)).bind fun h_4 =>
 some (.tup [], h_4)
 ) := by kernel_rfl
theorem J36x6xeq : TEq (J36x6 mk0 C p0 p3 i4 h) (J36x6xaux mk0 C p0 p3 i4 h) := join_te
end
noncomputable section
variable (p0 : Option Ad) (i1 : Int) (p2 : Option Ad) (i4 : Int) (p5 : Option Ad) (h : Heap) (Q : Kont R)
def S37xr : St := ⟨rep 4 (vi i4::rep 15 []), h⟩
def S37xe0 : St := ⟨(rep 20 []), h⟩
def Q37x4 (M : Mk) (C : Cal) : Kont (AV × Heap) := (blockQ 0 (seqQ (evalE M C k37x3) (seqQ (evalE M C k37x1) (endQ [.tmp 4]))))
def L37x4 : Option R := loopE (evalE M C k37x4) 38 0 ⟨(.any :: (vi i1 :: (vp p2 :: (.any :: .any :: (vp p5::rep 14 []))))), h⟩ Q
theorem r37 : runE M C c37 [(.ptr p0), (.int .i64 i1)] h = (
 newK h (.cells [(.ptr p0)] .fix 0) fun h_2 =>
 newK h_2 (.cells [(.int .i64 0)] .fix 0) fun h_3 =>
 (st1 h_3 ⟨List.length h_2, 0, 0⟩ (.int .i64 1)).bind fun h_4 =>
 L37x4 M C i1 (some ⟨List.length h, 0, 0⟩) (some ⟨List.length h_2, 0, 0⟩) h_4 (Q37x4 M C)
 ) := by kernel_rfl
theorem e37 : TEq (E 37 [(.ptr p0), (.int .i64 i1)] h) (r37 mk0 E p0 i1 h) := (EV_eq (P := Try.prog) (T := T0) rfl cf37 _ h).trans (r37 mk0 E p0 i1 h)
theorem L37x4xaux : rnd M C k37x4 38 0 ⟨(.any :: (vi i1 :: (vp p2 :: (.any :: .any :: (vp p5::rep 14 []))))), h⟩ Q = (
 atP p5 true fun a6 =>
 gI .i64 (ld1 h a6) true fun i6 =>
 letK (decide (i6 ≤ i1)) fun b8 =>
 if b8 = true then
  (
  atP p2 true fun a11 =>
  gP (ld1 h a11) true fun p11 =>
  atP p11 true fun a12 =>
  gL (ld1 h (Ad.add a12 3)) true fun s14 n14 =>
  (C 73 [(.sl s14 n14), (.fn 74 [] [(.ptr p2), (.ptr p5)])] h).bind fun r16 =>
  gB (some r16.1) true fun b16 =>
  if (!b16) = true then
   (
   atP p5 true fun a18 =>
   gI .i64 (ld1 r16.2 a18) true fun i18 =>
   Q .ret (S37xr i18 r16.2)
   )
  else
   (
   atP p5 true fun a19 =>
   gI .i64 (ld1 r16.2 a19) true fun i19 =>
   newK r16.2 (.cells [(.int .i64 0)] .fix 0) fun h_2 =>
   (st1 h_2 ⟨List.length r16.2, 0, 0⟩ (.int .i64 i19)).bind fun h_3 =>
   gI .i64 (ld1 h_3 ⟨List.length r16.2, 0, 0⟩) true fun i9 =>
   letK (IntKind.wrap .i64 (i9 + 1)) fun i10 =>
   (st1 h_3 ⟨List.length r16.2, 0, 0⟩ (.int .i64 i10)).bind fun h_4 =>
   L37x4 M C i1 p2 (some ⟨List.length r16.2, 0, 0⟩) h_4 Q
   )
  )
 else
  (
  Q (.exit 0) (S37xe0 h)
  )
 ) := by kernel_rfl
theorem L37x4xeq : TEq (L37x4 mk0 C i1 p2 p5 h Q) (L37x4xaux mk0 C i1 p2 p5 h Q) := loop_te (by kernel_rfl)
theorem X37x4xr : Q37x4 M C .ret (S37xr i4 h) = (
 some ((.int .i64 i4), h)
 ) := by kernel_rfl
theorem X37x4xe0 : Q37x4 M C (.exit 0) (S37xe0 h) = (
 some ((.int .i64 0), h)
 ) := by kernel_rfl
end
noncomputable section
variable (p0 : Option Ad) (i1x0 i1x1 i1x2 : Int) (b1x3 : Bool) (i2 : Int) (p4 : Option Ad) (i6 : Int) (h : Heap)
def J38x6 : Res := M (AV × Heap) (seqQ (evalE M C k38x3) (endQ [])) (vp p0::rep 3 (vp p4::.any::vi i6::rep 41 [])) h
theorem r38 : runE M C c38 [(.ptr p0), (.agg [(.int .i64 i1x0), (.int .i64 i1x1), (.int .i64 i1x2), (.bool b1x3)]), (.int .i64 i2)] h = (
 newK h (.cells [(.int .i64 i1x0), (.int .i64 i1x1), (.int .i64 i1x2), (.bool b1x3)] .fix 0) fun h_2 =>
 atP p0 true fun a8 =>
 gL (ld1 h_2 (Ad.add (Ad.add a8 0) 0)) true fun s11 n11 =>
 gI .i64 (ld1 h_2 (Ad.add ⟨List.length h, 0, 0⟩ 0)) true fun i13 =>
 atP p0 true fun a15 =>
 gL (ld1 h_2 (Ad.add (Ad.add a15 0) 1)) true fun s18 n18 =>
 gI .i64 (ld1 h_2 (Ad.add ⟨List.length h, 0, 0⟩ 0)) true fun i20 =>
 chk (true = true → 0 ≤ i13 ∧ i13 < (n11 : Int)) <|
 atP (adP s11) true fun a22 =>
 (st1 h_2 (Ad.add a22 (Int.toNat i13 * 1)) (.int .i64 i2)).bind fun h_3 =>
 chkC (true = true → ldN h_3 (Ad.add ⟨List.length h, 0, 0⟩ 0) 1 = ldN h_2 (Ad.add ⟨List.length h, 0, 0⟩ 0) 1) <|
 chk (true = true → 0 ≤ i20 ∧ i20 < (n18 : Int)) <|
 atP (adP s18) true fun a23 =>
 (st1 h_3 (Ad.add a23 (Int.toNat i20 * 1)) (.int .i64 (-1))).bind fun h_4 =>
 atP p0 true fun a25 =>
 gL (ld1 h_4 (Ad.add a25 3)) true fun s27 n27 =>
 (C 70 [(.sl s27 n27), (.fn 75 [] [(.ptr (some ⟨List.length h, 0, 0⟩))])] h_4).bind fun r29 =>
 gI .i64 (some r29.1) true fun i29 =>
 letK (decide (i29 < 0)) fun b31 =>
 if b31 = true then
  (
  atP p0 true fun a33 =>
  gL (ld1 r29.2 (Ad.add a33 3)) true fun s35 n35 =>
  J38x6 M C p0 (some ⟨List.length h, 0, 0⟩) (n35 : Int) r29.2
  )
 else
  (
  J38x6 M C p0 (some ⟨List.length h, 0, 0⟩) i29 r29.2
  )
 ) := by kernel_rfl
theorem e38 : TEq (E 38 [(.ptr p0), (.agg [(.int .i64 i1x0), (.int .i64 i1x1), (.int .i64 i1x2), (.bool b1x3)]), (.int .i64 i2)] h) (r38 mk0 E p0 i1x0 i1x1 i1x2 b1x3 i2 h) := (EV_eq (P := Try.prog) (T := T0) rfl cf38 _ h).trans (r38 mk0 E p0 i1x0 i1x1 i1x2 b1x3 i2 h)
theorem J38x6xaux : (forceK tk (vp p0::rep 3 (vp p4::.any::vi i6::rep 41 [])) fun e => (seqQ (evalE M C k38x3) (endQ [])) .normal ⟨e, h⟩) = (
 atP p0 true fun a39 =>
 gL (ld1 h (Ad.add a39 3)) true fun s41 n41 =>
 atP p4 true fun a43 =>
 gCells (ldN h a43 4) true fun l43 =>
 gI .i64 (l43[0]?) true fun i43x0 =>
 gI .i64 (l43[1]?) true fun i43x1 =>
 gI .i64 (l43[2]?) true fun i43x2 =>
 gB (l43[3]?) true fun b43x3 =>
 newK h (.cells [(.int .i64 i43x0), (.int .i64 i43x1), (.int .i64 i43x2), (.bool b43x3)] (.grow 4) 0) fun h_2 =>
 (C 76 [(.sl s41 n41), (.int .i64 i6), (.sl (.pos ⟨List.length h, 0, 0⟩) 1)] h_2).bind fun r45 =>
 gL (some r45.1) true fun s45 n45 =>
 atP p0 true fun a46 =>
 (st1 r45.2 (Ad.add a46 3) (.sl s45 n45)).bind fun h_3 =>
 some (.tup [], h_3)
 ) := by kernel_rfl
theorem J38x6xeq : TEq (J38x6 mk0 C p0 p4 i6 h) (J38x6xaux mk0 C p0 p4 i6 h) := join_te
end
noncomputable section
def k39x1:=of [
 mv 15 0,
 nc 16 15,
 fa 17 0 16,
 fa 18 0 17,
 ls 19 18,
 fa 20 0 3,
 li 21 20,
 mv 22 0,
 nc 23 22,
 fa 24 0 23,
 fa 25 1 24,
 ls 26 25,
 fa 27 0 3,
 li 28 27,
 mv 29 0,
 nc 30 29,
 fa 31 4 30,
 ls 32 31,
 ln 33 32,
 bc 34 .sub 33 1,
 ia 35 1 19 21,
  ⟨none, .store 1 (.tmp 35) (.c (.int .i64 (-1))), none, [.load 1 27 none]⟩,
 ia 36 1 26 28,
 u (.store 1 (t 36) (t 34))]
def k39x0:=sq (of [
 mv 4 0,
 mv 5 0,
 nc 6 5,
 fa 7 4 6,
 ls 8 7,
 fa 9 2 3,
 li 10 9,
 o 11 (.buildSl [(.int .i64 0)] 1 [(0, (t 10))]),
 o 12 (.append [(.int .i64 0)] 1 8 (t 8) (t 11)),
 nc 13 4,
 fa 14 4 13,
 u (.store 1 (t 14) (t 12))]) k39x1
end
noncomputable section
variable (p0 : Option Ad) (i1x0 i1x1 i1x2 : Int) (b1x3 : Bool) (h : Heap)
def c39 : AFn := ⟨37, [],
 .seq (of [
 o 3 (.boxL (t 1))]) k39x0⟩
theorem r39 : runE M C c39 [(.ptr p0), (.agg [(.int .i64 i1x0), (.int .i64 i1x1), (.int .i64 i1x2), (.bool b1x3)])] h = (
 atP p0 true fun a6 =>
 gL (ld1 h (Ad.add a6 4)) true fun s8 n8 =>
 newK h (.cells [(.int .i64 i1x2)] (.grow 1) 0) fun h_2 =>
 (ldSl h_2 (.pos ⟨List.length h, 0, 0⟩) (1 * 1)).bind fun y12 =>
 (apnd h_2 (.sl s8 n8) 1 8 y12 1).bind fun r12 =>
 gL (some r12.1) true fun s12 n12 =>
 atP p0 true fun a13 =>
 (st1 r12.2 (Ad.add a13 4) (.sl s12 n12)).bind fun h_3 =>
 atP p0 true fun a16 =>
 gL (ld1 h_3 (Ad.add (Ad.add a16 0) 0)) true fun s19 n19 =>
 atP p0 true fun a23 =>
 gL (ld1 h_3 (Ad.add (Ad.add a23 0) 1)) true fun s26 n26 =>
 atP p0 true fun a30 =>
 gL (ld1 h_3 (Ad.add a30 4)) true fun s32 n32 =>
 letK (IntKind.wrap .i64 ((n32 : Int) - 1)) fun i34 =>
 chk (true = true → 0 ≤ i1x0 ∧ i1x0 < (n19 : Int)) <|
 atP (adP s19) true fun a35 =>
 (st1 h_3 (Ad.add a35 (Int.toNat i1x0 * 1)) (.int .i64 (-1))).bind fun h_4 =>
 chk (true = true → 0 ≤ i1x0 ∧ i1x0 < (n26 : Int)) <|
 atP (adP s26) true fun a36 =>
 (st1 h_4 (Ad.add a36 (Int.toNat i1x0 * 1)) (.int .i64 i34)).bind fun h_5 =>
 some (.tup [], h_5)
 ) := by kernel_rfl
theorem cf39 : cFn Try.prog 39 = some c39 := by kernel_rfl
theorem e39 : TEq (E 39 [(.ptr p0), (.agg [(.int .i64 i1x0), (.int .i64 i1x1), (.int .i64 i1x2), (.bool b1x3)])] h) (r39 mk0 E p0 i1x0 i1x1 i1x2 b1x3 h) := (EV_eq (P := Try.prog) (T := T0) rfl cf39 _ h).trans (r39 mk0 E p0 i1x0 i1x1 i1x2 b1x3 h)
end
noncomputable section
variable (i0x0 i0x1 i0x2 : Int) (b0x3 : Bool) (p1 : Option Ad) (h : Heap)
theorem r35 : runE M C c35 [(.agg [(.int .i64 i0x0), (.int .i64 i0x1), (.int .i64 i0x2), (.bool b0x3)]), (.ptr p1)] h = (
 atP p1 true fun a6 =>
 gI .i64 (ld1 h (Ad.add a6 1)) true fun i7 =>
 letK (decide (i0x2 < i7)) fun b8 =>
 some ((.bool b8), h)
 ) := by kernel_rfl
theorem e35 : TEq (E 35 [(.agg [(.int .i64 i0x0), (.int .i64 i0x1), (.int .i64 i0x2), (.bool b0x3)]), (.ptr p1)] h) (r35 mk0 E i0x0 i0x1 i0x2 b0x3 p1 h) := (EV_eq (P := Try.prog) (T := T0) rfl cf35 _ h).trans (r35 mk0 E i0x0 i0x1 i0x2 b0x3 p1 h)
end
noncomputable section
variable (i0x0 : Int) (s0x1 : SA) (n0x1 : Nat) (i0x2 : Int) (s0x3 : SA) (n0x3 : Nat) (i1 : Int) (s4x0 : SA) (n4x0 : Nat) (s4x1 : SA) (n4x1 : Nat) (i4x2 : Int) (s6 : SA) (n6 : Nat) (p8 : Option Ad) (i45 i46 : Int) (s64 : SA) (n64 : Nat) (i65 i66 : Int) (h : Heap) (Q : Kont R)
def S12xe0 : St := ⟨(.any :: (vi i1 :: (.any :: .any :: (.box [(.sl s4x0 n4x0), (.sl s4x1 n4x1), (.int .i64 i4x2)]::.any::vl s6 n6::.any::vp p8::rep 148 [])))), h⟩
def S12xe2 : St := ⟨rep 4 (.box [(.sl s4x0 n4x0), (.sl s4x1 n4x1), (.int .i64 i4x2)]::rep 3 (vp p8::rep 148 [])), h⟩
def Q12x16 (M : Mk) (C : Cal) : Kont (AV × Heap) := (blockQ 0 (seqQ (evalE M C k12x15) (seqQ (evalE M C k12x13) (endQ [.cell 4 (.agg [.sl, .sl, (.int .i64)]), .tmp 5]))))
def L12x16 : Option R := loopE (evalE M C k12x16) 105553116266834 338 ⟨(.any :: (vi i1 :: (.any :: .any :: (.box [(.sl s4x0 n4x0), (.sl s4x1 n4x1), (.int .i64 i4x2)]::.any::vl s6 n6::.any::vp p8::rep 36 (vi i45::vi i46::rep 110 []))))), h⟩ Q
def Q12x27 (M : Mk) (C : Cal) : Kont (AV × Heap) := (blockQ 2 (seqQ (evalE M C k12x26) (seqQ (evalE M C k12x24) (endQ [.cell 4 (.agg [.sl, .sl, (.int .i64)]), .tmp 5]))))
def L12x27 : Option R := loopE (evalE M C k12x27) 129127208515966861586 272 ⟨(.any :: (vi i1 :: (.any :: .any :: (.box [(.sl s4x0 n4x0), (.sl s4x1 n4x1), (.int .i64 i4x2)]::rep 3 (vp p8::rep 55 (vl s64 n64::vi i65::vi i66::rep 90 [])))))), h⟩ Q
def J12x56 : Option R := M R (seqQ (evalE M C k12x32) (roundQ M C k12x27 129127208515966861586 272 Q)) (.any :: (vi i1 :: (.any :: .any :: (.box [(.sl s4x0 n4x0), (.sl s4x1 n4x1), (.int .i64 i4x2)]::rep 3 (vp p8::rep 55 (vl s64 n64::vi i65::vi i66::rep 90 [])))))) h
theorem r12 : runE M C c12 [(.agg [(.int .i64 i0x0), (.sl s0x1 n0x1), (.int .i64 i0x2), (.sl s0x3 n0x3)]), (.int .i64 i1)] h = (
 (C 9 [(.agg [(.int .i64 i0x0), (.sl s0x1 n0x1), (.int .i64 i0x2), (.sl s0x3 n0x3)])] h).bind fun r17 =>
 gT 2 r17.1 true fun u17 =>
 gL (some (List.getD u17 0 .opq)) true fun s17x0 n17x0 =>
 gI .i64 (some (List.getD u17 1 .opq)) true fun i17x1 =>
 letK (!decide (i17x1 = 0)) fun b21 =>
 if b21 = true then
  (
  some (.tup [(.agg [(.sl .nil 0), (.sl .nil 0), (.int .i64 0)]), (.int .i64 i17x1)], r17.2)
  )
 else
  (
  letK (decide (i1 < 1)) fun b25 =>
  letK (decide ((10 : Int) < i1)) fun b28 =>
  letK (if b25 = true then true else b28) fun b29 =>
  if b29 = true then
   (
   some (.tup [(.agg [(.sl .nil 0), (.sl .nil 0), (.int .i64 0)]), (.int .i64 4)], r17.2)
   )
  else
   (
   chk (0 ≤ i0x2 ∧ i0x2 ≤ i0x2 ∧ i0x2 * ((8 : Nat) : Int) ≤ 70368744177664) <|
   newK r17.2 (.cells (repl (Int.toNat i0x2) [(.int .i64 0)]) (.grow 1) 0) fun h_2 =>
   letK (Int.toNat i0x2) fun n33 =>
   chk (0 ≤ i0x2 ∧ i0x2 ≤ i0x2 ∧ i0x2 * ((8 : Nat) : Int) ≤ 70368744177664) <|
   newK h_2 (.cells (repl (Int.toNat i0x2) [(.int .i64 0)]) (.grow 1) 0) fun h_3 =>
   letK (Int.toNat i0x2) fun n36 =>
   newK h_3 (.cells [(.sl (.pos ⟨List.length r17.2, 0, 0⟩) n33), (.sl (.pos ⟨List.length h_2, 0, 0⟩) n36), (.int .i64 0), (.sl .nil 0), (.sl .nil 0)] .fix 0) fun h_4 =>
   gL (ld1 h_4 (Ad.add (Ad.add ⟨List.length h_3, 0, 0⟩ 0) 0)) true fun s44 n44 =>
   L12x16 M C i1 .nil 0 .nil 0 0 s17x0 n17x0 (some ⟨List.length h_3, 0, 0⟩) (n44 : Int) 0 h_4 (Q12x16 M C)
   )
  )
 ) := by kernel_rfl
theorem e12 : TEq (E 12 [(.agg [(.int .i64 i0x0), (.sl s0x1 n0x1), (.int .i64 i0x2), (.sl s0x3 n0x3)]), (.int .i64 i1)] h) (r12 mk0 E i0x0 s0x1 n0x1 i0x2 s0x3 n0x3 i1 h) := (EV_eq (P := Try.prog) (T := T0) rfl cf12 _ h).trans (r12 mk0 E i0x0 s0x1 n0x1 i0x2 s0x3 n0x3 i1 h)
theorem L12x16xaux : rnd M C k12x16 105553116266834 338 ⟨(.any :: (vi i1 :: (.any :: .any :: (.box [(.sl s4x0 n4x0), (.sl s4x1 n4x1), (.int .i64 i4x2)]::.any::vl s6 n6::.any::vp p8::rep 36 (vi i45::vi i46::rep 110 []))))), h⟩ Q = (
 letK (decide (i46 < i45)) fun b47 =>
 if b47 = true then
  (
  atP p8 true fun a50 =>
  gL (ld1 h (Ad.add (Ad.add a50 0) 0)) true fun s53 n53 =>
  atP p8 true fun a56 =>
  gL (ld1 h (Ad.add (Ad.add a56 0) 1)) true fun s59 n59 =>
  chk (true = true → 0 ≤ i46 ∧ i46 < (n53 : Int)) <|
  atP (adP s53) true fun a61 =>
  (st1 h (Ad.add a61 (Int.toNat i46 * 1)) (.int .i64 (-1))).bind fun h_2 =>
  chk (true = true → 0 ≤ i46 ∧ i46 < (n59 : Int)) <|
  atP (adP s59) true fun a62 =>
  (st1 h_2 (Ad.add a62 (Int.toNat i46 * 1)) (.int .i64 (-1))).bind fun h_3 =>
  letK (IntKind.wrap .i64 (i46 + 1)) fun i63 =>
  L12x16 M C i1 s4x0 n4x0 s4x1 n4x1 i4x2 s6 n6 p8 i45 i63 h_3 Q
  )
 else
  (
  Q (.exit 0) (S12xe0 i1 s4x0 n4x0 s4x1 n4x1 i4x2 s6 n6 p8 h)
  )
 ) := by kernel_rfl
theorem L12x16xeq : TEq (L12x16 mk0 C i1 s4x0 n4x0 s4x1 n4x1 i4x2 s6 n6 p8 i45 i46 h Q) (L12x16xaux mk0 C i1 s4x0 n4x0 s4x1 n4x1 i4x2 s6 n6 p8 i45 i46 h Q) := loop_te (by kernel_rfl)
theorem X12x16xe0 : Q12x16 M C (.exit 0) (S12xe0 i1 s4x0 n4x0 s4x1 n4x1 i4x2 s6 n6 p8 h) = (
 L12x27 M C i1 s4x0 n4x0 s4x1 n4x1 i4x2 p8 s6 n6 (n6 : Int) 0 h (Q12x27 M C)
 ) := by kernel_rfl
theorem L12x27xaux : rnd M C k12x27 129127208515966861586 272 ⟨(.any :: (vi i1 :: (.any :: .any :: (.box [(.sl s4x0 n4x0), (.sl s4x1 n4x1), (.int .i64 i4x2)]::rep 3 (vp p8::rep 55 (vl s64 n64::vi i65::vi i66::rep 90 [])))))), h⟩ Q = (
 letK (decide (i66 < i65)) fun b67 =>
 if b67 = true then
  (
  chk (true = true → 0 ≤ i66 ∧ i66 < (n64 : Int)) <|
  atP (adP s64) true fun a68 =>
  gCells (ldN h (Ad.add a68 (Int.toNat i66 * 4)) 4) true fun l69 =>
  gI .i64 (l69[0]?) true fun i69x0 =>
  gI .i64 (l69[1]?) true fun i69x1 =>
  gI .i64 (l69[2]?) true fun i69x2 =>
  gB (l69[3]?) true fun b69x3 =>
  newK h (.cells [(.int .i64 0), (.int .i64 0), (.int .i64 0), (.bool false)] .fix 0) fun h_2 =>
  (stN h_2 ⟨List.length h, 0, 0⟩ [(.int .i64 i69x0), (.int .i64 i69x1), (.int .i64 i69x2), (.bool b69x3)]).bind fun h_3 =>
  atP p8 true fun a72 =>
  gL (ld1 h_3 (Ad.add a72 3)) true fun s74 n74 =>
  (C 34 [(.sl s74 n74), (.fn 35 [] [(.ptr (some ⟨List.length h, 0, 0⟩))])] h_3).bind fun r76 =>
  gL (some r76.1) true fun s76 n76 =>
  atP p8 true fun a77 =>
  (st1 r76.2 (Ad.add a77 3) (.sl s76 n76)).bind fun h_4 =>
  gB (ld1 h_4 (Ad.add ⟨List.length h, 0, 0⟩ 3)) true fun b80 =>
  if b80 = true then
   (
   gCells (ldN h_4 ⟨List.length h, 0, 0⟩ 4) true fun l82 =>
   gI .i64 (l82[0]?) true fun i82x0 =>
   gI .i64 (l82[1]?) true fun i82x1 =>
   gI .i64 (l82[2]?) true fun i82x2 =>
   gB (l82[3]?) true fun b82x3 =>
   (C 36 [(.ptr p8), (.agg [(.int .i64 i82x0), (.int .i64 i82x1), (.int .i64 i82x2), (.bool b82x3)])] h_4).bind fun r83 =>
   gT 0 r83.1 true fun u83 =>
   J12x56 M C i1 s4x0 n4x0 s4x1 n4x1 i4x2 p8 s64 n64 i65 i66 r83.2 Q
   )
  else
   (
   (C 37 [(.ptr p8), (.int .i64 i1)] h_4).bind fun r86 =>
   gI .i64 (some r86.1) true fun i86 =>
   letK (decide ((0 : Int) < i86)) fun b88 =>
   if b88 = true then
    (
    gCells (ldN r86.2 ⟨List.length h, 0, 0⟩ 4) true fun l90 =>
    gI .i64 (l90[0]?) true fun i90x0 =>
    gI .i64 (l90[1]?) true fun i90x1 =>
    gI .i64 (l90[2]?) true fun i90x2 =>
    gB (l90[3]?) true fun b90x3 =>
    (C 38 [(.ptr p8), (.agg [(.int .i64 i90x0), (.int .i64 i90x1), (.int .i64 i90x2), (.bool b90x3)]), (.int .i64 i86)] r86.2).bind fun r92 =>
    gT 0 r92.1 true fun u92 =>
    J12x56 M C i1 s4x0 n4x0 s4x1 n4x1 i4x2 p8 s64 n64 i65 i66 r92.2 Q
    )
   else
    (
    atP p8 true fun a94 =>
    gL (ld1 r86.2 (Ad.add a94 3)) true fun s96 n96 =>
    atP p8 true fun a98 =>
    gL (ld1 r86.2 (Ad.add a98 3)) true fun s100 n100 =>
    letK (IntKind.wrap .i64 ((n100 : Int) - 1)) fun i102 =>
    chk (true = true → 0 ≤ i102 ∧ i102 < (n96 : Int)) <|
    atP (adP s96) true fun a103 =>
    gCells (ldN r86.2 (Ad.add a103 (Int.toNat i102 * 4)) 4) true fun l104 =>
    gI .i64 (l104[0]?) true fun i104x0 =>
    gI .i64 (l104[1]?) true fun i104x1 =>
    gI .i64 (l104[2]?) true fun i104x2 =>
    gB (l104[3]?) true fun b104x3 =>
    gI .i64 (ld1 r86.2 (Ad.add ⟨List.length h, 0, 0⟩ 2)) true fun i108 =>
    letK (decide (i104x2 ≤ i108)) fun b109 =>
    if b109 = true then
     (
     gCells (ldN r86.2 ⟨List.length h, 0, 0⟩ 4) true fun l111 =>
     gI .i64 (l111[0]?) true fun i111x0 =>
     gI .i64 (l111[1]?) true fun i111x1 =>
     gI .i64 (l111[2]?) true fun i111x2 =>
     gB (l111[3]?) true fun b111x3 =>
     (C 36 [(.ptr p8), (.agg [(.int .i64 i111x0), (.int .i64 i111x1), (.int .i64 i111x2), (.bool b111x3)])] r86.2).bind fun r112 =>
     gT 0 r112.1 true fun u112 =>
     J12x56 M C i1 s4x0 n4x0 s4x1 n4x1 i4x2 p8 s64 n64 i65 i66 r112.2 Q
     )
    else
     (
     atP p8 true fun a115 =>
     gL (ld1 r86.2 (Ad.add a115 3)) true fun s117 n117 =>
     atP p8 true fun a119 =>
     gL (ld1 r86.2 (Ad.add a119 3)) true fun s121 n121 =>
     letK (IntKind.wrap .i64 ((n121 : Int) - 1)) fun i123 =>
     chkC (true = true → 0 ≤ i123 ∧ hiOk r86.2 s117 n117 4 i123) <|
     letK (Int.toNat i123) fun n124 =>
     atP p8 true fun a125 =>
     (st1 r86.2 (Ad.add a125 3) (.sl s117 n124)).bind fun h_5 =>
     atP p8 true fun a128 =>
     gL (ld1 h_5 (Ad.add (Ad.add a128 0) 0)) true fun s131 n131 =>
     chk (true = true → 0 ≤ i104x0 ∧ i104x0 < (n131 : Int)) <|
     atP (adP s131) true fun a134 =>
     gI .i64 (ld1 h_5 (Ad.add a134 (Int.toNat i104x0 * 1))) true fun i135 =>
     (C 39 [(.ptr p8), (.agg [(.int .i64 i104x0), (.int .i64 i104x1), (.int .i64 i104x2), (.bool b104x3)])] h_5).bind fun r138 =>
     gT 0 r138.1 true fun u138 =>
     gCells (ldN r138.2 ⟨List.length h, 0, 0⟩ 4) true fun l140 =>
     gI .i64 (l140[0]?) true fun i140x0 =>
     gI .i64 (l140[1]?) true fun i140x1 =>
     gI .i64 (l140[2]?) true fun i140x2 =>
     gB (l140[3]?) true fun b140x3 =>
     (C 38 [(.ptr p8), (.agg [(.int .i64 i140x0), (.int .i64 i140x1), (.int .i64 i140x2), (.bool b140x3)]), (.int .i64 i135)] r138.2).bind fun r142 =>
     gT 0 r142.1 true fun u142 =>
     J12x56 M C i1 s4x0 n4x0 s4x1 n4x1 i4x2 p8 s64 n64 i65 i66 r142.2 Q
     )
    )
   )
  )
 else
  (
  Q (.exit 2) (S12xe2 s4x0 n4x0 s4x1 n4x1 i4x2 p8 h)
  )
 ) := by kernel_rfl
theorem L12x27xeq : TEq (L12x27 mk0 C i1 s4x0 n4x0 s4x1 n4x1 i4x2 p8 s64 n64 i65 i66 h Q) (L12x27xaux mk0 C i1 s4x0 n4x0 s4x1 n4x1 i4x2 p8 s64 n64 i65 i66 h Q) := loop_te (by kernel_rfl)
theorem J12x56xaux : (forceK tk (.any :: (vi i1 :: (.any :: .any :: (.box [(.sl s4x0 n4x0), (.sl s4x1 n4x1), (.int .i64 i4x2)]::rep 3 (vp p8::rep 55 (vl s64 n64::vi i65::vi i66::rep 90 [])))))) fun e => (seqQ (evalE M C k12x32) (roundQ M C k12x27 129127208515966861586 272 Q)) .normal ⟨e, h⟩) = (
 letK (IntKind.wrap .i64 (i66 + 1)) fun i143 =>
 L12x27 M C i1 s4x0 n4x0 s4x1 n4x1 i4x2 p8 s64 n64 i65 i143 h Q
 ) := by kernel_rfl
theorem J12x56xeq : TEq (J12x56 mk0 C i1 s4x0 n4x0 s4x1 n4x1 i4x2 p8 s64 n64 i65 i66 h Q) (J12x56xaux mk0 C i1 s4x0 n4x0 s4x1 n4x1 i4x2 p8 s64 n64 i65 i66 h Q) := join_te
theorem X12x27xe2 : Q12x27 M C (.exit 2) (S12xe2 s4x0 n4x0 s4x1 n4x1 i4x2 p8 h) = (
 atP p8 true fun a146 =>
 gL (ld1 h (Ad.add a146 4)) true fun s148 n148 =>
 atP p8 true fun a150 =>
 (st1 h (Ad.add (Ad.add a150 0) 2) (.int .i64 (n148 : Int))).bind fun h_2 =>
 atP p8 true fun a154 =>
 gCells (ldN h_2 (Ad.add a154 0) 3) true fun l156 =>
 gL (l156[0]?) true fun s156x0 n156x0 =>
 gL (l156[1]?) true fun s156x1 n156x1 =>
 gI .i64 (l156[2]?) true fun i156x2 =>
 some (.tup [(.agg [(.sl s156x0 n156x0), (.sl s156x1 n156x1), (.int .i64 i156x2)]), (.int .i64 0)], h_2)
 ) := by kernel_rfl
end
end
end Go.Proofs.Ytnmdadadjneaiaa.D
