/- Parts of the proof, printed. -/
import Derived.Test.YtnmdadadjneaiaaLibD
import Derived.Test.YtnmdadadjneaiaaDPrim
import Derived.KernelRfl
set_option linter.unusedVariables false
set_option maxRecDepth 100000
namespace Go.Proofs.Ytnmdadadjneaiaa.D
open Go Go.Proofs.Ytnmdadadjneaiaa.Abs Abs.Sh Go.Proofs
abbrev rep (n : Nat) (l : List SV) : List SV := List.replicate n .any ++ l
noncomputable def E : Cal := EV Try.prog T0
section
variable {R : Type} (M : Mk) (C : Cal)
noncomputable section
variable (i0 i1 i2 : Int) (h : Heap)
theorem r58 : runE M C c58 [(.int .i64 i0), (.int .i64 i1), (.int .i64 i2)] h = (
 letK (decide (i1 ≤ i0)) fun b9 =>
 letK (decide (i0 ≤ i2)) fun b13 =>
 letK (if b9 = true then b13 else false) fun b14 =>
 some ((.bool b14), h)
 ) := by kernel_rfl
theorem e58 : TEq (E 58 [(.int .i64 i0), (.int .i64 i1), (.int .i64 i2)] h) (r58 mk0 E i0 i1 i2 h) := (EV_eq (P := Try.prog) (T := T0) rfl cf58 _ h).trans (r58 mk0 E i0 i1 i2 h)
end
noncomputable section
variable (s0 : SA) (n0 : Nat) (i1 i4 i7 i8 : Int) (h : Heap) (Q : Kont R)
def S54xr : St := ⟨rep 4 (vi i4::rep 14 []), h⟩
def S54xe0 : St := ⟨(rep 19 []), h⟩
def Q54x4 (M : Mk) (C : Cal) : Kont (AV × Heap) := (blockQ 0 (seqQ (evalE M C k54x3) (seqQ (evalE M C k54x1) (endQ [.tmp 4]))))
def L54x4 : Option R := loopE (evalE M C k54x4) 387 0 ⟨vl s0 n0::vi i1::rep 5 (vi i7::vi i8::rep 10 []), h⟩ Q
theorem r54 : runE M C c54 [(.sl s0 n0), (.int .i64 i1)] h = (
 L54x4 M C s0 n0 i1 (n0 : Int) 0 h (Q54x4 M C)
 ) := by kernel_rfl
theorem e54 : TEq (E 54 [(.sl s0 n0), (.int .i64 i1)] h) (r54 mk0 E s0 n0 i1 h) := (EV_eq (P := Try.prog) (T := T0) rfl cf54 _ h).trans (r54 mk0 E s0 n0 i1 h)
theorem L54x4xaux : rnd M C k54x4 387 0 ⟨vl s0 n0::vi i1::rep 5 (vi i7::vi i8::rep 10 []), h⟩ Q = (
 letK (decide (i8 < i7)) fun b9 =>
 if b9 = true then
  (
  chk (true = true → 0 ≤ i8 ∧ i8 < (n0 : Int)) <|
  atP (adP s0) true fun a14 =>
  gI .i64 (ld1 h (Ad.add a14 (Int.toNat i8 * 1))) true fun i15 =>
  letK (decide (i1 = i15)) fun b16 =>
  if b16 = true then
   (
   Q .ret (S54xr i8 h)
   )
  else
   (
   letK (IntKind.wrap .i64 (i8 + 1)) fun i18 =>
   L54x4 M C s0 n0 i1 i7 i18 h Q
   )
  )
 else
  (
  Q (.exit 0) (S54xe0 h)
  )
 ) := by kernel_rfl
theorem L54x4xeq : TEq (L54x4 mk0 C s0 n0 i1 i7 i8 h Q) (L54x4xaux mk0 C s0 n0 i1 i7 i8 h Q) := loop_te (by kernel_rfl)
theorem X54x4xr : Q54x4 M C .ret (S54xr i4 h) = (
 some ((.int .i64 i4), h)
 ) := by kernel_rfl
theorem X54x4xe0 : Q54x4 M C (.exit 0) (S54xe0 h) = (
 some ((.int .i64 (-1)), h)
 ) := by kernel_rfl
end
noncomputable section
variable (s0 : SA) (n0 : Nat) (i1 : Int) (h : Heap)
theorem r20 : runE M C c20 [(.sl s0 n0), (.int .i64 i1)] h = (
 (C 54 [(.sl s0 n0), (.int .i64 i1)] h).bind fun r7 =>
 gI .i64 (some r7.1) true fun i7 =>
 letK (decide (0 ≤ i7)) fun b8 =>
 some ((.bool b8), r7.2)
 ) := by kernel_rfl
theorem e20 : TEq (E 20 [(.sl s0 n0), (.int .i64 i1)] h) (r20 mk0 E s0 n0 i1 h) := (EV_eq (P := Try.prog) (T := T0) rfl cf20 _ h).trans (r20 mk0 E s0 n0 i1 h)
end
noncomputable section
variable (i0 : Int) (h : Heap)
theorem r64 : runE M C c64 [(.int .i64 i0)] h = (
 letK (decide (i0 = 0)) fun b4 =>
 some ((.bool b4), h)
 ) := by kernel_rfl
theorem e64 : TEq (E 64 [(.int .i64 i0)] h) (r64 mk0 E i0 h) := (EV_eq (P := Try.prog) (T := T0) rfl cf64 _ h).trans (r64 mk0 E i0 h)
end
noncomputable section
variable (i0 : Int) (h : Heap)
theorem r65 : runE M C c65 [(.int .i64 i0)] h = (
 letK (decide (i0 = 0)) fun b4 =>
 some ((.bool b4), h)
 ) := by kernel_rfl
theorem e65 : TEq (E 65 [(.int .i64 i0)] h) (r65 mk0 E i0 h) := (EV_eq (P := Try.prog) (T := T0) rfl cf65 _ h).trans (r65 mk0 E i0 h)
end
noncomputable section
variable (s0 : SA) (n0 : Nat) (v1 : AV) (i4 i7 i8 : Int) (h : Heap) (Q : Kont R)
def S71xr : St := ⟨rep 4 (vi i4::rep 14 []), h⟩
def S71xe0 : St := ⟨(rep 19 []), h⟩
def Q71x4 (M : Mk) (C : Cal) : Kont (AV × Heap) := (blockQ 0 (seqQ (evalE M C k71x3) (seqQ (evalE M C k71x1) (endQ [.tmp 4]))))
def L71x4 : Option R := loopE (evalE M C k71x4) 387 0 ⟨vl s0 n0::.g [] true v1::rep 5 (vi i7::vi i8::rep 10 []), h⟩ Q
theorem r71 : runE M C c71 [(.sl s0 n0), v1] h = (
 L71x4 M C s0 n0 v1 (n0 : Int) 0 h (Q71x4 M C)
 ) := by kernel_rfl
theorem e71 : TEq (E 71 [(.sl s0 n0), v1] h) (r71 mk0 E s0 n0 v1 h) := (EV_eq (P := Try.prog) (T := T0) rfl cf71 _ h).trans (r71 mk0 E s0 n0 v1 h)
theorem L71x4xaux : rnd M C k71x4 387 0 ⟨vl s0 n0::.g [] true v1::rep 5 (vi i7::vi i8::rep 10 []), h⟩ Q = (
 letK (decide (i8 < i7)) fun b9 =>
 if b9 = true then
  (
  chk (true = true → 0 ≤ i8 ∧ i8 < (n0 : Int)) <|
  atP (adP s0) true fun a14 =>
  gI .i64 (ld1 h (Ad.add a14 (Int.toNat i8 * 1))) true fun i15 =>
  fnK v1 fun f16 a16 c16 =>
  (C f16 (a16 ++ [(.int .i64 i15)] ++ c16) h).bind fun r16 =>
  gB (some r16.1) true fun b16 =>
  if b16 = true then
   (
   Q .ret (S71xr i8 r16.2)
   )
  else
   (
   letK (IntKind.wrap .i64 (i8 + 1)) fun i18 =>
   L71x4 M C s0 n0 v1 i7 i18 r16.2 Q
   )
  )
 else
  (
  Q (.exit 0) (S71xe0 h)
  )
 ) := by kernel_rfl
theorem L71x4xeq : TEq (L71x4 mk0 C s0 n0 v1 i7 i8 h Q) (L71x4xaux mk0 C s0 n0 v1 i7 i8 h Q) := loop_te (by kernel_rfl)
theorem X71x4xr : Q71x4 M C .ret (S71xr i4 h) = (
 some ((.int .i64 i4), h)
 ) := by kernel_rfl
theorem X71x4xe0 : Q71x4 M C (.exit 0) (S71xe0 h) = (
 some ((.int .i64 (-1)), h)
 ) := by kernel_rfl
end
noncomputable section
variable (s0 : SA) (n0 : Nat) (v1 : AV) (i5 i6 : Int) (h : Heap) (Q : Kont R)
def S63xe0 : St := ⟨vl s0 n0::rep 4 (vi i5::rep 36 []), h⟩
def Q63x10 (M : Mk) (C : Cal) : Kont (AV × Heap) := (blockQ 0 (seqQ (evalE M C k63x9) (seqQ (evalE M C k63x7) (endQ [.tmp 4]))))
def L63x10 : Option R := loopE (evalE M C k63x10) 99 33 ⟨vl s0 n0::.g [] true v1::rep 3 (vi i5::vi i6::rep 35 []), h⟩ Q
def J63x21 : Option R := M R (blockQ 1 (seqQ (evalE M C k63x16) (seqQ (evalE M C k63x15) (roundQ M C k63x10 99 33 Q)))) (vl s0 n0::.g [] true v1::rep 3 (vi i5::vi i6::rep 35 [])) h
theorem r63 : runE M C c63 [(.sl s0 n0), v1] h = (
 (C 71 [(.sl s0 n0), v1] h).bind fun r10 =>
 gI .i64 (some r10.1) true fun i10 =>
 letK (decide (i10 = (-1))) fun b12 =>
 if b12 = true then
  (
  some ((.sl s0 n0), r10.2)
  )
 else
  (
  letK (IntKind.wrap .i64 (i10 + 1)) fun i15 =>
  L63x10 M C s0 n0 v1 i10 i15 r10.2 (Q63x10 M C)
  )
 ) := by kernel_rfl
theorem e63 : TEq (E 63 [(.sl s0 n0), v1] h) (r63 mk0 E s0 n0 v1 h) := (EV_eq (P := Try.prog) (T := T0) rfl cf63 _ h).trans (r63 mk0 E s0 n0 v1 h)
theorem L63x10xaux : rnd M C k63x10 99 33 ⟨vl s0 n0::.g [] true v1::rep 3 (vi i5::vi i6::rep 35 []), h⟩ Q = (
 letK (decide (i6 < (n0 : Int))) fun b19 =>
 if b19 = true then
  (
  chk (true = true → 0 ≤ i6 ∧ i6 < (n0 : Int)) <|
  atP (adP s0) true fun a24 =>
  gI .i64 (ld1 h (Ad.add a24 (Int.toNat i6 * 1))) true fun i25 =>
  fnK v1 fun f28 a28 c28 =>
  (C f28 (a28 ++ [(.int .i64 i25)] ++ c28) h).bind fun r28 =>
  gB (some r28.1) true fun b28 =>
  if (!b28) = true then
   (
   chk (true = true → 0 ≤ i5 ∧ i5 < (n0 : Int)) <|
   atP (adP s0) true fun a33 =>
   (st1 r28.2 (Ad.add a33 (Int.toNat i5 * 1)) (.int .i64 i25)).bind fun h_2 =>
   letK (IntKind.wrap .i64 (i5 + 1)) fun i35 =>
   J63x21 M C s0 n0 v1 i35 i6 h_2 Q
   )
  else
   (
   J63x21 M C s0 n0 v1 i5 i6 r28.2 Q
   )
  )
 else
  (
  Q (.exit 0) (S63xe0 s0 n0 i5 h)
  )
 ) := by kernel_rfl
theorem L63x10xeq : TEq (L63x10 mk0 C s0 n0 v1 i5 i6 h Q) (L63x10xaux mk0 C s0 n0 v1 i5 i6 h Q) := loop_te (by kernel_rfl)
theorem J63x21xaux : (forceK tk (vl s0 n0::.g [] true v1::rep 3 (vi i5::vi i6::rep 35 [])) fun e => (blockQ 1 (seqQ (evalE M C k63x16) (seqQ (evalE M C k63x15) (roundQ M C k63x10 99 33 Q)))) .normal ⟨e, h⟩) = (
 letK (IntKind.wrap .i64 (i6 + 1)) fun i21 =>
 L63x10 M C s0 n0 v1 i5 i21 h Q
 ) := by kernel_rfl
theorem J63x21xeq : TEq (J63x21 mk0 C s0 n0 v1 i5 i6 h Q) (J63x21xaux mk0 C s0 n0 v1 i5 i6 h Q) := join_te
theorem X63x10xe0 : Q63x10 M C (.exit 0) (S63xe0 s0 n0 i5 h) = (
 chkC (true = true → 0 ≤ i5 ∧ i5 ≤ (n0 : Int) ∧ esOk h s0 1) <|
 letK (n0 - Int.toNat i5) fun n38 =>
 letK ((adS s0 (Int.toNat i5 * 1) n38) : SA) fun s38 =>
 (clrM h s38 n38 [(.int .i64 0)]).bind fun h_2 =>
 chkC (true = true → 0 ≤ i5 ∧ hiOk h_2 s0 n0 1 i5) <|
 some ((.sl s0 (Int.toNat i5)), h_2)
 ) := by kernel_rfl
end
noncomputable section
variable (i0x0 i0x1 i0x2 i0x3 i0x4 : Int) (s0x5 : SA) (n0x5 : Nat) (h : Heap)
theorem r29 : runE M C c29 [(.agg [(.int .i64 i0x0), (.int .i64 i0x1), (.int .i64 i0x2), (.int .i64 i0x3), (.int .i64 i0x4), (.sl s0x5 n0x5)])] h = (
 newK h (.cells [(.int .i64 i0x2), (.int .i64 i0x3)] (.grow 1) 0) fun h_2 =>
 (ldSl h_2 s0x5 (n0x5 * 1)).bind fun y11 =>
 (apnd h_2 (.sl (.pos ⟨List.length h, 0, 0⟩) 2) 1 8 y11 n0x5).bind fun r11 =>
 gL (some r11.1) true fun s11 n11 =>
 (C 63 [(.sl s11 n11), (.fn 64 [] [])] r11.2).bind fun r13 =>
 gL (some r13.1) true fun s13 n13 =>
 some ((.sl s13 n13), r13.2)
 ) := by kernel_rfl
theorem e29 : TEq (E 29 [(.agg [(.int .i64 i0x0), (.int .i64 i0x1), (.int .i64 i0x2), (.int .i64 i0x3), (.int .i64 i0x4), (.sl s0x5 n0x5)])] h) (r29 mk0 E i0x0 i0x1 i0x2 i0x3 i0x4 s0x5 n0x5 h) := (EV_eq (P := Try.prog) (T := T0) rfl cf29 _ h).trans (r29 mk0 E i0x0 i0x1 i0x2 i0x3 i0x4 s0x5 n0x5 h)
end
noncomputable section
variable (i0x0 i0x1 i0x2 i0x3 i0x4 : Int) (s0x5 : SA) (n0x5 : Nat) (h : Heap)
theorem r30 : runE M C c30 [(.agg [(.int .i64 i0x0), (.int .i64 i0x1), (.int .i64 i0x2), (.int .i64 i0x3), (.int .i64 i0x4), (.sl s0x5 n0x5)])] h = (
 letK (decide (i0x0 = 13)) fun b5 =>
 gI .i64 (some (.int .i64 i0x0)) (!b5) fun i8 =>
 letK (decide (i8 = 23)) fun b9 =>
 letK (if b5 = true then true else b9) fun b10 =>
 if b10 = true then
  (
  some ((.int .i64 0), h)
  )
 else
  (
  some ((.int .i64 i0x1), h)
  )
 ) := by kernel_rfl
theorem e30 : TEq (E 30 [(.agg [(.int .i64 i0x0), (.int .i64 i0x1), (.int .i64 i0x2), (.int .i64 i0x3), (.int .i64 i0x4), (.sl s0x5 n0x5)])] h) (r30 mk0 E i0x0 i0x1 i0x2 i0x3 i0x4 s0x5 n0x5 h) := (EV_eq (P := Try.prog) (T := T0) rfl cf30 _ h).trans (r30 mk0 E i0x0 i0x1 i0x2 i0x3 i0x4 s0x5 n0x5 h)
end
noncomputable section
variable (i0x0 i0x1 i0x2 i0x3 i0x4 : Int) (s0x5 : SA) (n0x5 : Nat) (h : Heap)
theorem r31 : runE M C c31 [(.agg [(.int .i64 i0x0), (.int .i64 i0x1), (.int .i64 i0x2), (.int .i64 i0x3), (.int .i64 i0x4), (.sl s0x5 n0x5)])] h = (
 newK h (.cells [(.int .i64 i0x2), (.int .i64 i0x3)] (.grow 1) 0) fun h_2 =>
 (C 63 [(.sl (.pos ⟨List.length h, 0, 0⟩) 2), (.fn 65 [] [])] h_2).bind fun r8 =>
 gL (some r8.1) true fun s8 n8 =>
 some ((.sl s8 n8), r8.2)
 ) := by kernel_rfl
theorem e31 : TEq (E 31 [(.agg [(.int .i64 i0x0), (.int .i64 i0x1), (.int .i64 i0x2), (.int .i64 i0x3), (.int .i64 i0x4), (.sl s0x5 n0x5)])] h) (r31 mk0 E i0x0 i0x1 i0x2 i0x3 i0x4 s0x5 n0x5 h) := (EV_eq (P := Try.prog) (T := T0) rfl cf31 _ h).trans (r31 mk0 E i0x0 i0x1 i0x2 i0x3 i0x4 s0x5 n0x5 h)
end
noncomputable section
variable (i0 : Int) (b2x0 b2x1 b2x2 b2x3 b2x4 : Bool) (i4 : Int) (b5 b15 b21 : Bool) (h : Heap)
def J89x25 : Res := M (AV × Heap) (seqQ (evalE M C k89x4) (blockQ 0 (seqQ (evalE M C k89x3) (seqQ (evalE M C k89x1) (endQ [.cell 2 (.agg [.bool, .bool, .bool, .bool, .bool]), .tmp 3]))))) (.any :: .any :: (.box [(.bool b2x0), (.bool b2x1), (.bool b2x2), (.bool b2x3), (.bool b2x4)]::.any::vi i4::vb b5::rep 38 [])) h
def J89x24 : Res := M (AV × Heap) (seqQ (evalE M C k89x6) (seqQ (evalE M C k89x4) (blockQ 0 (seqQ (evalE M C k89x3) (seqQ (evalE M C k89x1) (endQ [.cell 2 (.agg [.bool, .bool, .bool, .bool, .bool]), .tmp 3])))))) (.any :: .any :: (.box [(.bool b2x0), (.bool b2x1), (.bool b2x2), (.bool b2x3), (.bool b2x4)]::.any::vi i4::vb b5::rep 38 [])) h
def J89x23 : Res := M (AV × Heap) (seqQ (evalE M C k89x8) (seqQ (evalE M C k89x6) (seqQ (evalE M C k89x4) (blockQ 0 (seqQ (evalE M C k89x3) (seqQ (evalE M C k89x1) (endQ [.cell 2 (.agg [.bool, .bool, .bool, .bool, .bool]), .tmp 3]))))))) (.any :: .any :: (.box [(.bool b2x0), (.bool b2x1), (.bool b2x2), (.bool b2x3), (.bool b2x4)]::.any::vi i4::vb b5::rep 38 [])) h
def J89x22 : Res := M (AV × Heap) (seqQ (evalE M C k89x10) (seqQ (evalE M C k89x8) (seqQ (evalE M C k89x6) (seqQ (evalE M C k89x4) (blockQ 0 (seqQ (evalE M C k89x3) (seqQ (evalE M C k89x1) (endQ [.cell 2 (.agg [.bool, .bool, .bool, .bool, .bool]), .tmp 3])))))))) (.any :: .any :: (.box [(.bool b2x0), (.bool b2x1), (.bool b2x2), (.bool b2x3), (.bool b2x4)]::.any::vi i4::vb b5::rep 38 [])) h
def J89x21 : Res := M (AV × Heap) (seqQ (evalE M C k89x12) (seqQ (evalE M C k89x10) (seqQ (evalE M C k89x8) (seqQ (evalE M C k89x6) (seqQ (evalE M C k89x4) (blockQ 0 (seqQ (evalE M C k89x3) (seqQ (evalE M C k89x1) (endQ [.cell 2 (.agg [.bool, .bool, .bool, .bool, .bool]), .tmp 3]))))))))) (.any :: .any :: (.box [(.bool b2x0), (.bool b2x1), (.bool b2x2), (.bool b2x3), (.bool b2x4)]::.any::vi i4::vb b5::rep 38 [])) h
def J89x20 : Res := M (AV × Heap) (seqQ (evalE M C k89x14) (seqQ (evalE M C k89x12) (seqQ (evalE M C k89x10) (seqQ (evalE M C k89x8) (seqQ (evalE M C k89x6) (seqQ (evalE M C k89x4) (blockQ 0 (seqQ (evalE M C k89x3) (seqQ (evalE M C k89x1) (endQ [.cell 2 (.agg [.bool, .bool, .bool, .bool, .bool]), .tmp 3])))))))))) (.any :: .any :: (.box [(.bool b2x0), (.bool b2x1), (.bool b2x2), (.bool b2x3), (.bool b2x4)]::.any::vi i4::vb b5::rep 38 [])) h
def J89x19 : Res := M (AV × Heap) (seqQ (evalE M C k89x16) (seqQ (evalE M C k89x14) (seqQ (evalE M C k89x12) (seqQ (evalE M C k89x10) (seqQ (evalE M C k89x8) (seqQ (evalE M C k89x6) (seqQ (evalE M C k89x4) (blockQ 0 (seqQ (evalE M C k89x3) (seqQ (evalE M C k89x1) (endQ [.cell 2 (.agg [.bool, .bool, .bool, .bool, .bool]), .tmp 3]))))))))))) (.any :: .any :: (.box [(.bool b2x0), (.bool b2x1), (.bool b2x2), (.bool b2x3), (.bool b2x4)]::.any::vi i4::vb b5::rep 38 [])) h
def J89x38 : Res := M (AV × Heap) (seqQ (evalE M C k89x29) (seqQ (evalE M C k89x26) (blockQ 0 (seqQ (evalE M C k89x3) (seqQ (evalE M C k89x1) (endQ [.cell 2 (.agg [.bool, .bool, .bool, .bool, .bool]), .tmp 3])))))) (.any :: .any :: (.box [(.bool b2x0), (.bool b2x1), (.bool b2x2), (.bool b2x3), (.bool b2x4)]::.any::vi i4::rep 10 (vb b15::rep 28 []))) h
def J89x37 : Res := M (AV × Heap) (seqQ (evalE M C k89x31) (seqQ (evalE M C k89x29) (seqQ (evalE M C k89x26) (blockQ 0 (seqQ (evalE M C k89x3) (seqQ (evalE M C k89x1) (endQ [.cell 2 (.agg [.bool, .bool, .bool, .bool, .bool]), .tmp 3]))))))) (.any :: .any :: (.box [(.bool b2x0), (.bool b2x1), (.bool b2x2), (.bool b2x3), (.bool b2x4)]::.any::vi i4::rep 10 (vb b15::rep 28 []))) h
def J89x36 : Res := M (AV × Heap) (seqQ (evalE M C k89x33) (seqQ (evalE M C k89x31) (seqQ (evalE M C k89x29) (seqQ (evalE M C k89x26) (blockQ 0 (seqQ (evalE M C k89x3) (seqQ (evalE M C k89x1) (endQ [.cell 2 (.agg [.bool, .bool, .bool, .bool, .bool]), .tmp 3])))))))) (.any :: .any :: (.box [(.bool b2x0), (.bool b2x1), (.bool b2x2), (.bool b2x3), (.bool b2x4)]::.any::vi i4::rep 10 (vb b15::rep 28 []))) h
def J89x45 : Res := M (AV × Heap) (seqQ (evalE M C k89x42) (seqQ (evalE M C k89x39) (seqQ (evalE M C k89x26) (blockQ 0 (seqQ (evalE M C k89x3) (seqQ (evalE M C k89x1) (endQ [.cell 2 (.agg [.bool, .bool, .bool, .bool, .bool]), .tmp 3]))))))) (.any :: .any :: (.box [(.bool b2x0), (.bool b2x1), (.bool b2x2), (.bool b2x3), (.bool b2x4)]::.any::vi i4::rep 16 (vb b21::rep 22 []))) h
theorem r89 : runE M C c89 [(.int .i64 i0)] h = (
 letK (decide (i0 = 1)) fun b6 =>
 if b6 = true then
  (
  J89x25 M C false false false false false i0 b6 h
  )
 else
  (
  letK (decide (i0 = 2)) fun b7 =>
  if b7 = true then
   (
   J89x24 M C false false false false false i0 b7 h
   )
  else
   (
   letK (decide (i0 = 3)) fun b8 =>
   if b8 = true then
    (
    J89x23 M C false false false false false i0 b8 h
    )
   else
    (
    letK (decide (i0 = 4)) fun b9 =>
    if b9 = true then
     (
     J89x22 M C false false false false false i0 b9 h
     )
    else
     (
     letK (decide (i0 = 5)) fun b10 =>
     if b10 = true then
      (
      J89x21 M C false false false false false i0 b10 h
      )
     else
      (
      letK (decide (i0 = 6)) fun b11 =>
      if b11 = true then
       (
       J89x20 M C false false false false false i0 b11 h
       )
      else
       (
       letK (decide (i0 = 7)) fun b12 =>
       if b12 = true then
        (
        J89x19 M C false false false false false i0 b12 h
        )
       else
        (
        letK (decide (i0 = 15)) fun b13 =>
        J89x19 M C false false false false false i0 b13 h
        )
       )
      )
     )
    )
   )
  )
 ) := by kernel_rfl
theorem e89 : TEq (E 89 [(.int .i64 i0)] h) (r89 mk0 E i0 h) := (EV_eq (P := Try.prog) (T := T0) rfl cf89 _ h).trans (r89 mk0 E i0 h)
theorem J89x25xaux : (forceK tk (.any :: .any :: (.box [(.bool b2x0), (.bool b2x1), (.bool b2x2), (.bool b2x3), (.bool b2x4)]::.any::vi i4::vb b5::rep 38 [])) fun e => (seqQ (evalE M C k89x4) (blockQ 0 (seqQ (evalE M C k89x3) (seqQ (evalE M C k89x1) (endQ [.cell 2 (.agg [.bool, .bool, .bool, .bool, .bool]), .tmp 3]))))) .normal ⟨e, h⟩) = (
 if b5 = true then
  (
  some (.tup [(.agg [(.bool true), (.bool true), (.bool true), (.bool false), (.bool false)]), (.bool true)], h)
  )
 else
  (
  letK (decide (i4 = 8)) fun b16 =>
  if b16 = true then
   (
   J89x38 M C b2x0 b2x1 b2x2 b2x3 b2x4 i4 b16 h
   )
  else
   (
   letK (decide (i4 = 9)) fun b17 =>
   if b17 = true then
    (
    J89x37 M C b2x0 b2x1 b2x2 b2x3 b2x4 i4 b17 h
    )
   else
    (
    letK (decide (i4 = 10)) fun b18 =>
    if b18 = true then
     (
     J89x36 M C b2x0 b2x1 b2x2 b2x3 b2x4 i4 b18 h
     )
    else
     (
     letK (decide (i4 = 12)) fun b19 =>
     J89x36 M C b2x0 b2x1 b2x2 b2x3 b2x4 i4 b19 h
     )
    )
   )
  )
 ) := by kernel_rfl
theorem J89x25xeq : TEq (J89x25 mk0 C b2x0 b2x1 b2x2 b2x3 b2x4 i4 b5 h) (J89x25xaux mk0 C b2x0 b2x1 b2x2 b2x3 b2x4 i4 b5 h) := join_te
theorem J89x24xaux : (forceK tk (.any :: .any :: (.box [(.bool b2x0), (.bool b2x1), (.bool b2x2), (.bool b2x3), (.bool b2x4)]::.any::vi i4::vb b5::rep 38 [])) fun e => (seqQ (evalE M C k89x6) (seqQ (evalE M C k89x4) (blockQ 0 (seqQ (evalE M C k89x3) (seqQ (evalE M C k89x1) (endQ [.cell 2 (.agg [.bool, .bool, .bool, .bool, .bool]), .tmp 3])))))) .normal ⟨e, h⟩) = (
 J89x25 M C b2x0 b2x1 b2x2 b2x3 b2x4 i4 b5 h
 ) := by kernel_rfl
theorem J89x24xeq : TEq (J89x24 mk0 C b2x0 b2x1 b2x2 b2x3 b2x4 i4 b5 h) (J89x24xaux mk0 C b2x0 b2x1 b2x2 b2x3 b2x4 i4 b5 h) := join_te
theorem J89x23xaux : (forceK tk (.any :: .any :: (.box [(.bool b2x0), (.bool b2x1), (.bool b2x2), (.bool b2x3), (.bool b2x4)]::.any::vi i4::vb b5::rep 38 [])) fun e => (seqQ (evalE M C k89x8) (seqQ (evalE M C k89x6) (seqQ (evalE M C k89x4) (blockQ 0 (seqQ (evalE M C k89x3) (seqQ (evalE M C k89x1) (endQ [.cell 2 (.agg [.bool, .bool, .bool, .bool, .bool]), .tmp 3]))))))) .normal ⟨e, h⟩) = (
 J89x24 M C b2x0 b2x1 b2x2 b2x3 b2x4 i4 b5 h
 ) := by kernel_rfl
theorem J89x23xeq : TEq (J89x23 mk0 C b2x0 b2x1 b2x2 b2x3 b2x4 i4 b5 h) (J89x23xaux mk0 C b2x0 b2x1 b2x2 b2x3 b2x4 i4 b5 h) := join_te
theorem J89x22xaux : (forceK tk (.any :: .any :: (.box [(.bool b2x0), (.bool b2x1), (.bool b2x2), (.bool b2x3), (.bool b2x4)]::.any::vi i4::vb b5::rep 38 [])) fun e => (seqQ (evalE M C k89x10) (seqQ (evalE M C k89x8) (seqQ (evalE M C k89x6) (seqQ (evalE M C k89x4) (blockQ 0 (seqQ (evalE M C k89x3) (seqQ (evalE M C k89x1) (endQ [.cell 2 (.agg [.bool, .bool, .bool, .bool, .bool]), .tmp 3])))))))) .normal ⟨e, h⟩) = (
 J89x23 M C b2x0 b2x1 b2x2 b2x3 b2x4 i4 b5 h
 ) := by kernel_rfl
theorem J89x22xeq : TEq (J89x22 mk0 C b2x0 b2x1 b2x2 b2x3 b2x4 i4 b5 h) (J89x22xaux mk0 C b2x0 b2x1 b2x2 b2x3 b2x4 i4 b5 h) := join_te
theorem J89x21xaux : (forceK tk (.any :: .any :: (.box [(.bool b2x0), (.bool b2x1), (.bool b2x2), (.bool b2x3), (.bool b2x4)]::.any::vi i4::vb b5::rep 38 [])) fun e => (seqQ (evalE M C k89x12) (seqQ (evalE M C k89x10) (seqQ (evalE M C k89x8) (seqQ (evalE M C k89x6) (seqQ (evalE M C k89x4) (blockQ 0 (seqQ (evalE M C k89x3) (seqQ (evalE M C k89x1) (endQ [.cell 2 (.agg [.bool, .bool, .bool, .bool, .bool]), .tmp 3]))))))))) .normal ⟨e, h⟩) = (
 J89x22 M C b2x0 b2x1 b2x2 b2x3 b2x4 i4 b5 h
 ) := by kernel_rfl
theorem J89x21xeq : TEq (J89x21 mk0 C b2x0 b2x1 b2x2 b2x3 b2x4 i4 b5 h) (J89x21xaux mk0 C b2x0 b2x1 b2x2 b2x3 b2x4 i4 b5 h) := join_te
theorem J89x20xaux : (forceK tk (.any :: .any :: (.box [(.bool b2x0), (.bool b2x1), (.bool b2x2), (.bool b2x3), (.bool b2x4)]::.any::vi i4::vb b5::rep 38 [])) fun e => (seqQ (evalE M C k89x14) (seqQ (evalE M C k89x12) (seqQ (evalE M C k89x10) (seqQ (evalE M C k89x8) (seqQ (evalE M C k89x6) (seqQ (evalE M C k89x4) (blockQ 0 (seqQ (evalE M C k89x3) (seqQ (evalE M C k89x1) (endQ [.cell 2 (.agg [.bool, .bool, .bool, .bool, .bool]), .tmp 3])))))))))) .normal ⟨e, h⟩) = (
 J89x21 M C b2x0 b2x1 b2x2 b2x3 b2x4 i4 b5 h
 ) := by kernel_rfl
theorem J89x20xeq : TEq (J89x20 mk0 C b2x0 b2x1 b2x2 b2x3 b2x4 i4 b5 h) (J89x20xaux mk0 C b2x0 b2x1 b2x2 b2x3 b2x4 i4 b5 h) := join_te
theorem J89x19xaux : (forceK tk (.any :: .any :: (.box [(.bool b2x0), (.bool b2x1), (.bool b2x2), (.bool b2x3), (.bool b2x4)]::.any::vi i4::vb b5::rep 38 [])) fun e => (seqQ (evalE M C k89x16) (seqQ (evalE M C k89x14) (seqQ (evalE M C k89x12) (seqQ (evalE M C k89x10) (seqQ (evalE M C k89x8) (seqQ (evalE M C k89x6) (seqQ (evalE M C k89x4) (blockQ 0 (seqQ (evalE M C k89x3) (seqQ (evalE M C k89x1) (endQ [.cell 2 (.agg [.bool, .bool, .bool, .bool, .bool]), .tmp 3]))))))))))) .normal ⟨e, h⟩) = (
 J89x20 M C b2x0 b2x1 b2x2 b2x3 b2x4 i4 b5 h
 ) := by kernel_rfl
theorem J89x19xeq : TEq (J89x19 mk0 C b2x0 b2x1 b2x2 b2x3 b2x4 i4 b5 h) (J89x19xaux mk0 C b2x0 b2x1 b2x2 b2x3 b2x4 i4 b5 h) := join_te
theorem J89x38xaux : (forceK tk (.any :: .any :: (.box [(.bool b2x0), (.bool b2x1), (.bool b2x2), (.bool b2x3), (.bool b2x4)]::.any::vi i4::rep 10 (vb b15::rep 28 []))) fun e => (seqQ (evalE M C k89x29) (seqQ (evalE M C k89x26) (blockQ 0 (seqQ (evalE M C k89x3) (seqQ (evalE M C k89x1) (endQ [.cell 2 (.agg [.bool, .bool, .bool, .bool, .bool]), .tmp 3])))))) .normal ⟨e, h⟩) = (
 if b15 = true then
  (
  some (.tup [(.agg [(.bool true), (.bool true), (.bool false), (.bool true), (.bool false)]), (.bool true)], h)
  )
 else
  (
  letK (decide (i4 = 11)) fun b22 =>
  if b22 = true then
   (
   J89x45 M C b2x0 b2x1 b2x2 b2x3 b2x4 i4 b22 h
   )
  else
   (
   letK (decide (i4 = 103)) fun b23 =>
   J89x45 M C b2x0 b2x1 b2x2 b2x3 b2x4 i4 b23 h
   )
  )
 ) := by kernel_rfl
theorem J89x38xeq : TEq (J89x38 mk0 C b2x0 b2x1 b2x2 b2x3 b2x4 i4 b15 h) (J89x38xaux mk0 C b2x0 b2x1 b2x2 b2x3 b2x4 i4 b15 h) := join_te
theorem J89x37xaux : (forceK tk (.any :: .any :: (.box [(.bool b2x0), (.bool b2x1), (.bool b2x2), (.bool b2x3), (.bool b2x4)]::.any::vi i4::rep 10 (vb b15::rep 28 []))) fun e => (seqQ (evalE M C k89x31) (seqQ (evalE M C k89x29) (seqQ (evalE M C k89x26) (blockQ 0 (seqQ (evalE M C k89x3) (seqQ (evalE M C k89x1) (endQ [.cell 2 (.agg [.bool, .bool, .bool, .bool, .bool]), .tmp 3]))))))) .normal ⟨e, h⟩) = (
 J89x38 M C b2x0 b2x1 b2x2 b2x3 b2x4 i4 b15 h
 ) := by kernel_rfl
theorem J89x37xeq : TEq (J89x37 mk0 C b2x0 b2x1 b2x2 b2x3 b2x4 i4 b15 h) (J89x37xaux mk0 C b2x0 b2x1 b2x2 b2x3 b2x4 i4 b15 h) := join_te
theorem J89x36xaux : (forceK tk (.any :: .any :: (.box [(.bool b2x0), (.bool b2x1), (.bool b2x2), (.bool b2x3), (.bool b2x4)]::.any::vi i4::rep 10 (vb b15::rep 28 []))) fun e => (seqQ (evalE M C k89x33) (seqQ (evalE M C k89x31) (seqQ (evalE M C k89x29) (seqQ (evalE M C k89x26) (blockQ 0 (seqQ (evalE M C k89x3) (seqQ (evalE M C k89x1) (endQ [.cell 2 (.agg [.bool, .bool, .bool, .bool, .bool]), .tmp 3])))))))) .normal ⟨e, h⟩) = (
 J89x37 M C b2x0 b2x1 b2x2 b2x3 b2x4 i4 b15 h
 ) := by kernel_rfl
theorem J89x36xeq : TEq (J89x36 mk0 C b2x0 b2x1 b2x2 b2x3 b2x4 i4 b15 h) (J89x36xaux mk0 C b2x0 b2x1 b2x2 b2x3 b2x4 i4 b15 h) := join_te
theorem J89x45xaux : (forceK tk (.any :: .any :: (.box [(.bool b2x0), (.bool b2x1), (.bool b2x2), (.bool b2x3), (.bool b2x4)]::.any::vi i4::rep 16 (vb b21::rep 22 []))) fun e => (seqQ (evalE M C k89x42) (seqQ (evalE M C k89x39) (seqQ (evalE M C k89x26) (blockQ 0 (seqQ (evalE M C k89x3) (seqQ (evalE M C k89x1) (endQ [.cell 2 (.agg [.bool, .bool, .bool, .bool, .bool]), .tmp 3]))))))) .normal ⟨e, h⟩) = (
 if b21 = true then
  (
  some (.tup [(.agg [(.bool true), (.bool false), (.bool false), (.bool true), (.bool false)]), (.bool true)], h)
  )
 else
  (
  letK (decide (i4 = 13)) fun b26 =>
  if b26 = true then
   (
   some (.tup [(.agg [(.bool false), (.bool true), (.bool true), (.bool true), (.bool false)]), (.bool true)], h)
   )
  else
   (
   letK (decide (i4 = 14)) fun b29 =>
   if b29 = true then
    (
    some (.tup [(.agg [(.bool true), (.bool false), (.bool true), (.bool true), (.bool false)]), (.bool true)], h)
    )
   else
    (
    letK (decide (i4 = 23)) fun b32 =>
    if b32 = true then
     (
     some (.tup [(.agg [(.bool false), (.bool true), (.bool false), (.bool false), (.bool false)]), (.bool true)], h)
     )
    else
     (
     letK (decide (i4 = 100)) fun b35 =>
     if b35 = true then
      (
      some (.tup [(.agg [(.bool true), (.bool true), (.bool false), (.bool false), (.bool false)]), (.bool true)], h)
      )
     else
      (
      letK (decide (i4 = 101)) fun b38 =>
      if b38 = true then
       (
       some (.tup [(.agg [(.bool true), (.bool false), (.bool false), (.bool true), (.bool true)]), (.bool true)], h)
       )
      else
       (
       letK (decide (i4 = 102)) fun b41 =>
       if b41 = true then
        (
        some (.tup [(.agg [(.bool true), (.bool true), (.bool false), (.bool false), (.bool true)]), (.bool true)], h)
        )
       else
        (
        some (.tup [(.agg [(.bool false), (.bool false), (.bool false), (.bool false), (.bool false)]), (.bool false)], h)
        )
       )
      )
     )
    )
   )
  )
 ) := by kernel_rfl
theorem J89x45xeq : TEq (J89x45 mk0 C b2x0 b2x1 b2x2 b2x3 b2x4 i4 b21 h) (J89x45xaux mk0 C b2x0 b2x1 b2x2 b2x3 b2x4 i4 b21 h) := join_te
end
noncomputable section
variable (i0x0 i0x1 i0x2 i0x3 i0x4 : Int) (s0x5 : SA) (n0x5 : Nat) (i1 i4 : Int) (s128 : SA) (n128 : Nat) (i129 i130 : Int) (h : Heap) (Q : Kont R)
def S59xr : St := ⟨rep 4 (vi i4::rep 135 []), h⟩
def S59xe0 : St := ⟨(rep 140 []), h⟩
def Q59x20 (M : Mk) (C : Cal) : Kont (AV × Heap) := (blockQ 0 (seqQ (evalE M C k59x19) (seqQ (evalE M C k59x17) (endQ [.tmp 4]))))
def L59x20 : Option R := loopE (evalE M C k59x20) 2381976568446569244243622252022377480194 0 ⟨.any::vi i1::rep 126 (vl s128 n128::vi i129::vi i130::rep 9 []), h⟩ Q
theorem r59 (i0x0 i0x1 : Int) (i0x2 i0x3 i0x4 : Int) (s0x5 : SA) (n0x5 : Nat) (i1 : Int) (h : Heap) : runE M C c59 [(.agg [(.int .i64 i0x0), (.int .i64 i0x1), (.int .i64 i0x2), (.int .i64 i0x3), (.int .i64 i0x4), (.sl s0x5 n0x5)]), (.int .i64 i1)] h = (
 (C 89 [(.int .i64 i0x0)] h).bind fun r12 =>
 gT 2 r12.1 true fun u12 =>
 gA (List.getD u12 0 .opq) true fun l12x0 =>
 chk (true = true → l12x0.length = 5) <|
 gB (l12x0[0]?) true fun b12x0x0 =>
 gB (l12x0[1]?) true fun b12x0x1 =>
 gB (l12x0[2]?) true fun b12x0x2 =>
 gB (l12x0[3]?) true fun b12x0x3 =>
 gB (l12x0[4]?) true fun b12x0x4 =>
 gB (some (List.getD u12 1 .opq)) true fun b12x1 =>
 if (!b12x1) = true then
  (
  some ((.int .i64 1), r12.2)
  )
 else
  (
  gI .i64 (some (.int .i64 i0x1)) (!b12x0x0) fun i22 =>
  letK (!decide (i22 = 0)) fun b23 =>
  letK (if (!b12x0x0) = true then b23 else false) fun b24 =>
  gB (some (.bool b12x0x1)) (!b24) fun b27 =>
  gI .i64 (some (.int .i64 i0x2)) (andB (!b24) (!b27)) fun i31 =>
  letK (!decide (i31 = 0)) fun b32 =>
  letK (if (!b27) = true then b32 else false) fun b33 =>
  letK (if b24 = true then true else b33) fun b34 =>
  gB (some (.bool b12x0x2)) (!b34) fun b37 =>
  gI .i64 (some (.int .i64 i0x3)) (andB (!b34) (!b37)) fun i41 =>
  letK (!decide (i41 = 0)) fun b42 =>
  letK (if (!b37) = true then b42 else false) fun b43 =>
  letK (if b34 = true then true else b43) fun b44 =>
  gB (some (.bool b12x0x3)) (!b44) fun b47 =>
  gI .i64 (some (.int .i64 i0x4)) (andB (!b44) (!b47)) fun i51 =>
  letK (!decide (i51 = 0)) fun b52 =>
  letK (if (!b47) = true then b52 else false) fun b53 =>
  letK (if b44 = true then true else b53) fun b54 =>
  gB (some (.bool b12x0x4)) (!b54) fun b57 =>
  gL (some (.sl s0x5 n0x5)) (andB (!b54) (!b57)) fun s61 n61 =>
  letK (decide ((0 : Int) < (n61 : Int))) fun b63 =>
  letK (if (!b57) = true then b63 else false) fun b64 =>
  letK (if b54 = true then true else b64) fun b65 =>
  if b65 = true then
   (
   some ((.int .i64 3), r12.2)
   )
  else
   (
   letK (decide ((6 : Int) < (n0x5 : Int))) fun b69 =>
   gI .i64 (some (.int .i64 i0x4)) (!b69) fun i72 =>
   (callO (!b69) (C 58 [(.int .i64 i72), (.int .i64 (-2147483648)), (.int .i64 2147483647)] r12.2) (.bool false) r12.2).bind fun r73 =>
   gB (some r73.1) (!b69) fun b73 =>
   letK (if b69 = true then true else (!b73)) fun b75 =>
   gI .i64 (some (.int .i64 i0x0)) (!b75) fun i78 =>
   letK (decide (i78 = 101)) fun b79 =>
   gI .i64 (some (.int .i64 i0x0)) (andB (!b75) (!b79)) fun i82 =>
   letK (decide (i82 = 103)) fun b83 =>
   letK (if b79 = true then true else b83) fun b84 =>
   gI .i64 (some (.int .i64 i0x4)) (andB (!b75) b84) fun i87 =>
   (callO (andB (!b75) b84) (C 58 [(.int .i64 i87), (.int .i64 0), (.int .i64 255)] r73.2) (.bool false) r73.2).bind fun r88 =>
   gB (some r88.1) (andB (!b75) b84) fun b88 =>
   letK (if b84 = true then (!b88) else false) fun b90 =>
   letK (if b75 = true then true else b90) fun b91 =>
   gI .i64 (some (.int .i64 i0x0)) (!b91) fun i94 =>
   letK (decide (i94 = 9)) fun b95 =>
   gI .i64 (some (.int .i64 i0x0)) (andB (!b91) (!b95)) fun i98 =>
   letK (decide (i98 = 10)) fun b99 =>
   letK (if b95 = true then true else b99) fun b100 =>
   gI .i64 (some (.int .i64 i0x4)) (andB (!b91) b100) fun i103 =>
   (callO (andB (!b91) b100) (C 58 [(.int .i64 i103), (.int .i64 0), (.int .i64 31)] r88.2) (.bool false) r88.2).bind fun r104 =>
   gB (some r104.1) (andB (!b91) b100) fun b104 =>
   letK (if b100 = true then (!b104) else false) fun b106 =>
   letK (if b91 = true then true else b106) fun b107 =>
   gI .i64 (some (.int .i64 i0x0)) (!b107) fun i110 =>
   letK (decide (i110 = 14)) fun b111 =>
   gI .i64 (some (.int .i64 i0x4)) (andB (!b107) b111) fun i114 =>
   (callO (andB (!b107) b111) (C 58 [(.int .i64 i114), (.int .i64 0), (.int .i64 4095)] r104.2) (.bool false) r104.2).bind fun r115 =>
   gB (some r115.1) (andB (!b107) b111) fun b115 =>
   letK (if b111 = true then (!b115) else false) fun b117 =>
   letK (if b107 = true then true else b117) fun b118 =>
   if b118 = true then
    (
    some ((.int .i64 4), r115.2)
    )
   else
    (
    newK r115.2 (.cells [(.int .i64 i0x1), (.int .i64 i0x2), (.int .i64 i0x3)] (.grow 1) 0) fun h_2 =>
    (ldSl h_2 s0x5 (n0x5 * 1)).bind fun y128 =>
    (apnd h_2 (.sl (.pos ⟨List.length r115.2, 0, 0⟩) 3) 1 8 y128 n0x5).bind fun r128 =>
    gL (some r128.1) true fun s128 n128 =>
    L59x20 M C i1 s128 n128 (n128 : Int) 0 r128.2 (Q59x20 M C)
    )
   )
  )
 ) := by kernel_rfl
theorem e59 : TEq (E 59 [(.agg [(.int .i64 i0x0), (.int .i64 i0x1), (.int .i64 i0x2), (.int .i64 i0x3), (.int .i64 i0x4), (.sl s0x5 n0x5)]), (.int .i64 i1)] h) (r59 mk0 E i0x0 i0x1 i0x2 i0x3 i0x4 s0x5 n0x5 i1 h) := (EV_eq (P := Try.prog) (T := T0) rfl cf59 _ h).trans (r59 mk0 E i0x0 i0x1 i0x2 i0x3 i0x4 s0x5 n0x5 i1 h)
theorem L59x20xaux : rnd M C k59x20 2381976568446569244243622252022377480194 0 ⟨.any::vi i1::rep 126 (vl s128 n128::vi i129::vi i130::rep 9 []), h⟩ Q = (
 letK (decide (i130 < i129)) fun b131 =>
 if b131 = true then
  (
  chk (true = true → 0 ≤ i130 ∧ i130 < (n128 : Int)) <|
  atP (adP s128) true fun a132 =>
  gI .i64 (ld1 h (Ad.add a132 (Int.toNat i130 * 1))) true fun i133 =>
  letK (IntKind.wrap .i64 (i1 - 1)) fun i136 =>
  (C 58 [(.int .i64 i133), (.int .i64 0), (.int .i64 i136)] h).bind fun r137 =>
  gB (some r137.1) true fun b137 =>
  if (!b137) = true then
   (
   Q .ret (S59xr 6 r137.2)
   )
  else
   (
   letK (IntKind.wrap .i64 (i130 + 1)) fun i139 =>
   L59x20 M C i1 s128 n128 i129 i139 r137.2 Q
   )
  )
 else
  (
  Q (.exit 0) (S59xe0 h)
  )
 ) := by kernel_rfl
theorem L59x20xeq : TEq (L59x20 mk0 C i1 s128 n128 i129 i130 h Q) (L59x20xaux mk0 C i1 s128 n128 i129 i130 h Q) := loop_te (by kernel_rfl)
theorem X59x20xr : Q59x20 M C .ret (S59xr i4 h) = (
 some ((.int .i64 i4), h)
 ) := by kernel_rfl
theorem X59x20xe0 : Q59x20 M C (.exit 0) (S59xe0 h) = (
 some ((.int .i64 0), h)
 ) := by kernel_rfl
end
noncomputable section
variable (i0x0 i0x1 i0x2 i0x3 i0x4 : Int) (s0x5 : SA) (n0x5 : Nat) (i1 i2 i3x0 i3x1 i3x2 i3x3 i3x4 : Int) (s3x5 : SA) (n3x5 : Nat) (i6 i7 : Int) (b8 : Bool) (s112 : SA) (n112 : Nat) (i113 i114 : Int) (h : Heap) (Q : Kont R)
def S60xr : St := ⟨rep 6 (vi i6::rep 117 []), h⟩
def S60xe1 : St := ⟨(rep 124 []), h⟩
def J60x17 : Res := M (AV × Heap) (blockQ 0 (seqQ (evalE M C k60x4) (seqQ (evalE M C k60x2) (endQ [.tmp 6])))) (.any::vi i1::vi i2::.box [(.int .i64 i3x0), (.int .i64 i3x1), (.int .i64 i3x2), (.int .i64 i3x3), (.int .i64 i3x4), (.sl s3x5 n3x5)]::rep 3 (vi i7::vb b8::rep 115 [])) h
def J60x16 : Res := M (AV × Heap) (seqQ (evalE M C k60x6) (blockQ 0 (seqQ (evalE M C k60x4) (seqQ (evalE M C k60x2) (endQ [.tmp 6]))))) (.any::vi i1::vi i2::.box [(.int .i64 i3x0), (.int .i64 i3x1), (.int .i64 i3x2), (.int .i64 i3x3), (.int .i64 i3x4), (.sl s3x5 n3x5)]::rep 3 (vi i7::vb b8::rep 115 [])) h
def J60x15 : Res := M (AV × Heap) (seqQ (evalE M C k60x8) (seqQ (evalE M C k60x6) (blockQ 0 (seqQ (evalE M C k60x4) (seqQ (evalE M C k60x2) (endQ [.tmp 6])))))) (.any::vi i1::vi i2::.box [(.int .i64 i3x0), (.int .i64 i3x1), (.int .i64 i3x2), (.int .i64 i3x3), (.int .i64 i3x4), (.sl s3x5 n3x5)]::rep 3 (vi i7::vb b8::rep 115 [])) h
def Q60x31 (M : Mk) (C : Cal) : Kont (AV × Heap) := (blockQ 1 (seqQ (evalE M C k60x30) (seqQ (evalE M C k60x28) (endQ [.tmp 6]))))
def L60x31 : Option R := loopE (evalE M C k60x31) 36346078009743793399713474304540676 0 ⟨(.any :: .any :: (vi i2::rep 109 (vl s112 n112::vi i113::vi i114::rep 9 []))), h⟩ Q
theorem r60 : runE M C c60 [(.agg [(.int .i64 i0x0), (.int .i64 i0x1), (.int .i64 i0x2), (.int .i64 i0x3), (.int .i64 i0x4), (.sl s0x5 n0x5)]), (.int .i64 i1), (.int .i64 i2)] h = (
 letK (decide (i0x0 = 0)) fun b14 =>
 if b14 = true then
  (
  letK (decide (i0x1 = 0)) fun b17 =>
  gI .i64 (some (.int .i64 i0x3)) b17 fun i20 =>
  letK (decide (i20 = 0)) fun b21 =>
  letK (if b17 = true then b21 else false) fun b22 =>
  gI .i64 (some (.int .i64 i0x4)) b22 fun i25 =>
  letK (decide (i25 = 0)) fun b26 =>
  letK (if b22 = true then b26 else false) fun b27 =>
  J60x17 M C i1 i2 i0x0 i0x1 i0x2 i0x3 i0x4 s0x5 n0x5 0 b27 h
  )
 else
  (
  letK (decide (i0x0 = 1)) fun b29 =>
  if b29 = true then
   (
   letK (decide (i0x1 = 0)) fun b32 =>
   gI .i64 (some (.int .i64 i0x2)) b32 fun i35 =>
   letK (decide (i35 = 0)) fun b36 =>
   letK (if b32 = true then b36 else false) fun b37 =>
   gI .i64 (some (.int .i64 i0x3)) b37 fun i40 =>
   letK (decide (i40 = 0)) fun b41 =>
   letK (if b37 = true then b41 else false) fun b42 =>
   gI .i64 (some (.int .i64 i0x4)) b42 fun i45 =>
   letK (decide (i45 = 0)) fun b46 =>
   letK (if b42 = true then b46 else false) fun b47 =>
   J60x16 M C i1 i2 i0x0 i0x1 i0x2 i0x3 i0x4 s0x5 n0x5 1 b47 h
   )
  else
   (
   letK (decide (i0x0 = 2)) fun b49 =>
   if b49 = true then
    (
    letK (decide (i0x1 = 16)) fun b52 =>
    gI .i64 (some (.int .i64 i0x1)) (!b52) fun i55 =>
    letK (decide (i55 = 17)) fun b56 =>
    letK (if b52 = true then true else b56) fun b57 =>
    gI .i64 (some (.int .i64 i0x1)) (!b57) fun i60 =>
    letK (decide (i60 = 18)) fun b61 =>
    letK (if b57 = true then true else b61) fun b62 =>
    gI .i64 (some (.int .i64 i0x4)) b62 fun i65 =>
    letK (decide (i65 = 0)) fun b66 =>
    letK (if b62 = true then b66 else false) fun b67 =>
    J60x15 M C i1 i2 i0x0 i0x1 i0x2 i0x3 i0x4 s0x5 n0x5 2 b67 h
    )
   else
    (
    letK (decide (i0x0 = 3)) fun b69 =>
    if b69 = true then
     (
     letK (decide (i0x1 = 0)) fun b72 =>
     gI .i64 (some (.int .i64 i0x2)) b72 fun i75 =>
     letK (decide (i75 = 0)) fun b76 =>
     letK (if b72 = true then b76 else false) fun b77 =>
     gI .i64 (some (.int .i64 i0x3)) b77 fun i80 =>
     letK (decide (i80 = 0)) fun b81 =>
     letK (if b77 = true then b81 else false) fun b82 =>
     gI .i64 (some (.int .i64 i0x4)) b82 fun i85 =>
     (callO b82 (C 58 [(.int .i64 i85), (.int .i64 1), (.int .i64 6)] h) (.bool false) h).bind fun r86 =>
     gB (some r86.1) b82 fun b86 =>
     letK (if b82 = true then b86 else false) fun b87 =>
     J60x15 M C i1 i2 i0x0 i0x1 i0x2 i0x3 i0x4 s0x5 n0x5 0 b87 r86.2
     )
    else
     (
     some ((.int .i64 1), h)
     )
    )
   )
  )
 ) := by kernel_rfl
theorem e60 : TEq (E 60 [(.agg [(.int .i64 i0x0), (.int .i64 i0x1), (.int .i64 i0x2), (.int .i64 i0x3), (.int .i64 i0x4), (.sl s0x5 n0x5)]), (.int .i64 i1), (.int .i64 i2)] h) (r60 mk0 E i0x0 i0x1 i0x2 i0x3 i0x4 s0x5 n0x5 i1 i2 h) := (EV_eq (P := Try.prog) (T := T0) rfl cf60 _ h).trans (r60 mk0 E i0x0 i0x1 i0x2 i0x3 i0x4 s0x5 n0x5 i1 i2 h)
theorem J60x17xaux : (forceK tk (.any::vi i1::vi i2::.box [(.int .i64 i3x0), (.int .i64 i3x1), (.int .i64 i3x2), (.int .i64 i3x3), (.int .i64 i3x4), (.sl s3x5 n3x5)]::rep 3 (vi i7::vb b8::rep 115 [])) fun e => (blockQ 0 (seqQ (evalE M C k60x4) (seqQ (evalE M C k60x2) (endQ [.tmp 6])))) .normal ⟨e, h⟩) = (
 gL (some (.sl s3x5 n3x5)) (!(!b8)) fun s92 n92 =>
 letK (!decide (((n92 : Int) : Int) = i7)) fun b95 =>
 letK (if (!b8) = true then true else b95) fun b96 =>
 if b96 = true then
  (
  some ((.int .i64 3), h)
  )
 else
  (
  letK (IntKind.wrap .i64 (i1 - 1)) fun i100 =>
  (C 58 [(.int .i64 i3x2), (.int .i64 0), (.int .i64 i100)] h).bind fun r101 =>
  gB (some r101.1) true fun b101 =>
  gI .i64 (some (.int .i64 i3x3)) (!(!b101)) fun i105 =>
  letK (IntKind.wrap .i64 (i1 - 1)) fun i107 =>
  (callO (!(!b101)) (C 58 [(.int .i64 i105), (.int .i64 0), (.int .i64 i107)] r101.2) (.bool false) r101.2).bind fun r108 =>
  gB (some r108.1) (!(!b101)) fun b108 =>
  letK (if (!b101) = true then true else (!b108)) fun b110 =>
  if b110 = true then
   (
   some ((.int .i64 6), r108.2)
   )
  else
   (
   L60x31 M C i2 s3x5 n3x5 (n3x5 : Int) 0 r108.2 (Q60x31 M C)
   )
  )
 ) := by kernel_rfl
theorem J60x17xeq : TEq (J60x17 mk0 C i1 i2 i3x0 i3x1 i3x2 i3x3 i3x4 s3x5 n3x5 i7 b8 h) (J60x17xaux mk0 C i1 i2 i3x0 i3x1 i3x2 i3x3 i3x4 s3x5 n3x5 i7 b8 h) := join_te
theorem J60x16xaux : (forceK tk (.any::vi i1::vi i2::.box [(.int .i64 i3x0), (.int .i64 i3x1), (.int .i64 i3x2), (.int .i64 i3x3), (.int .i64 i3x4), (.sl s3x5 n3x5)]::rep 3 (vi i7::vb b8::rep 115 [])) fun e => (seqQ (evalE M C k60x6) (blockQ 0 (seqQ (evalE M C k60x4) (seqQ (evalE M C k60x2) (endQ [.tmp 6]))))) .normal ⟨e, h⟩) = (
 J60x17 M C i1 i2 i3x0 i3x1 i3x2 i3x3 i3x4 s3x5 n3x5 i7 b8 h
 ) := by kernel_rfl
theorem J60x16xeq : TEq (J60x16 mk0 C i1 i2 i3x0 i3x1 i3x2 i3x3 i3x4 s3x5 n3x5 i7 b8 h) (J60x16xaux mk0 C i1 i2 i3x0 i3x1 i3x2 i3x3 i3x4 s3x5 n3x5 i7 b8 h) := join_te
theorem J60x15xaux : (forceK tk (.any::vi i1::vi i2::.box [(.int .i64 i3x0), (.int .i64 i3x1), (.int .i64 i3x2), (.int .i64 i3x3), (.int .i64 i3x4), (.sl s3x5 n3x5)]::rep 3 (vi i7::vb b8::rep 115 [])) fun e => (seqQ (evalE M C k60x8) (seqQ (evalE M C k60x6) (blockQ 0 (seqQ (evalE M C k60x4) (seqQ (evalE M C k60x2) (endQ [.tmp 6])))))) .normal ⟨e, h⟩) = (
 J60x16 M C i1 i2 i3x0 i3x1 i3x2 i3x3 i3x4 s3x5 n3x5 i7 b8 h
 ) := by kernel_rfl
theorem J60x15xeq : TEq (J60x15 mk0 C i1 i2 i3x0 i3x1 i3x2 i3x3 i3x4 s3x5 n3x5 i7 b8 h) (J60x15xaux mk0 C i1 i2 i3x0 i3x1 i3x2 i3x3 i3x4 s3x5 n3x5 i7 b8 h) := join_te
theorem L60x31xaux : rnd M C k60x31 36346078009743793399713474304540676 0 ⟨(.any :: .any :: (vi i2::rep 109 (vl s112 n112::vi i113::vi i114::rep 9 []))), h⟩ Q = (
 letK (decide (i114 < i113)) fun b115 =>
 if b115 = true then
  (
  chk (true = true → 0 ≤ i114 ∧ i114 < (n112 : Int)) <|
  atP (adP s112) true fun a116 =>
  gI .i64 (ld1 h (Ad.add a116 (Int.toNat i114 * 1))) true fun i117 =>
  letK (IntKind.wrap .i64 (i2 - 1)) fun i120 =>
  (C 58 [(.int .i64 i117), (.int .i64 1), (.int .i64 i120)] h).bind fun r121 =>
  gB (some r121.1) true fun b121 =>
  if (!b121) = true then
   (
   Q .ret (S60xr 4 r121.2)
   )
  else
   (
   letK (IntKind.wrap .i64 (i114 + 1)) fun i123 =>
   L60x31 M C i2 s112 n112 i113 i123 r121.2 Q
   )
  )
 else
  (
  Q (.exit 1) (S60xe1 h)
  )
 ) := by kernel_rfl
theorem L60x31xeq : TEq (L60x31 mk0 C i2 s112 n112 i113 i114 h Q) (L60x31xaux mk0 C i2 s112 n112 i113 i114 h Q) := loop_te (by kernel_rfl)
theorem X60x31xr : Q60x31 M C .ret (S60xr i6 h) = (
 some ((.int .i64 i6), h)
 ) := by kernel_rfl
theorem X60x31xe1 : Q60x31 M C (.exit 1) (S60xe1 h) = (
 some ((.int .i64 0), h)
 ) := by kernel_rfl
end
noncomputable section
variable (i0x0 : Int) (s0x1 : SA) (n0x1 : Nat) (i0x2 : Int) (s0x3 : SA) (n0x3 : Nat) (s1 : SA) (n1 : Nat) (i2 : Int) (s7 : SA) (n7 : Nat) (s21 : SA) (n21 : Nat) (i22 i23 : Int) (s30 : SA) (n30 : Nat) (i31 i32 : Int) (h : Heap) (Q : Kont R)
def S62xe0 : St := ⟨rep 7 (vl s7 n7::rep 42 []), h⟩
def S62xe2 : St := ⟨.any::vl s1 n1::rep 5 (vl s7 n7::rep 13 (vl s21 n21::vi i22::vi i23::rep 26 [])), h⟩
def Q62x5 (M : Mk) (C : Cal) : Kont (AV × Heap) := (blockQ 0 (seqQ (evalE M C k62x4) (seqQ (evalE M C k62x2) (endQ [.tmp 6]))))
def L62x5 : Option R := loopE (evalE M C k62x5) 14680194 128 ⟨.any::vl s1 n1::rep 5 (vl s7 n7::rep 13 (vl s21 n21::vi i22::vi i23::rep 26 [])), h⟩ Q
def Q62x15 : Kont R := (blockQ 2 (seqQ (evalE M C k62x14) (blockQ 1 (seqQ (evalE M C k62x11) (seqQ (evalE M C k62x10) (roundQ M C k62x5 14680194 128 Q))))))
def L62x15 : Option R := loopE (evalE M C k62x15) 7530872962 14680194 ⟨.any::vl s1 n1::rep 5 (vl s7 n7::rep 13 (vl s21 n21::vi i22::vi i23::rep 6 (vl s30 n30::vi i31::vi i32::rep 17 []))), h⟩ Q
theorem r62 (i0x0 : Int) (s0x1 : SA) (n0x1 : Nat) (i0x2 : Int) (s0x3 : SA) (n0x3 : Nat) (s1 : SA) (n1 : Nat) (i2 : Int) (h : Heap) : runE M C c62 [(.agg [(.int .i64 i0x0), (.sl s0x1 n0x1), (.int .i64 i0x2), (.sl s0x3 n0x3)]), (.sl s1 n1), (.int .i64 i2)] h = (
 chk (0 ≤ i0x2 ∧ i0x2 ≤ i0x2 ∧ i0x2 * ((1 : Nat) : Int) ≤ 70368744177664) <|
 newK h (.cells (repl (Int.toNat i0x2) [(.bool false)]) (.grow 1) 0) fun h_2 =>
 letK (Int.toNat i0x2) fun n14 =>
 chk (true = true → 0 ≤ i2 ∧ i2 < (n0x3 : Int)) <|
 atP (adP s0x3) true fun a18 =>
 gL (ld1 h_2 (Ad.add (Ad.add (Ad.add a18 (Int.toNat i2 * 7)) 1) 5)) true fun s21 n21 =>
 L62x5 M C s1 n1 (.pos ⟨List.length h, 0, 0⟩) n14 s21 n21 (n21 : Int) 0 h_2 (Q62x5 M C)
 ) := by kernel_rfl
theorem e62 : TEq (E 62 [(.agg [(.int .i64 i0x0), (.sl s0x1 n0x1), (.int .i64 i0x2), (.sl s0x3 n0x3)]), (.sl s1 n1), (.int .i64 i2)] h) (r62 mk0 E i0x0 s0x1 n0x1 i0x2 s0x3 n0x3 s1 n1 i2 h) := (EV_eq (P := Try.prog) (T := T0) rfl cf62 _ h).trans (r62 mk0 E i0x0 s0x1 n0x1 i0x2 s0x3 n0x3 s1 n1 i2 h)
theorem L62x5xaux (s1 : SA) (n1 : Nat) (s7 : SA) (n7 : Nat) (s21 : SA) (n21 : Nat) (i22 i23 : Int) (h : Heap) (Q : Kont R) : rnd M C k62x5 14680194 128 ⟨.any::vl s1 n1::rep 5 (vl s7 n7::rep 13 (vl s21 n21::vi i22::vi i23::rep 26 [])), h⟩ Q = (
 letK (decide (i23 < i22)) fun b24 =>
 if b24 = true then
  (
  chk (true = true → 0 ≤ i23 ∧ i23 < (n21 : Int)) <|
  atP (adP s21) true fun a25 =>
  gI .i64 (ld1 h (Ad.add a25 (Int.toNat i23 * 1))) true fun i26 =>
  chk (true = true → 0 ≤ i26 ∧ i26 < (n1 : Int)) <|
  atP (adP s1) true fun a29 =>
  gL (ld1 h (Ad.add a29 (Int.toNat i26 * 1))) true fun s30 n30 =>
  L62x15 M C s1 n1 s7 n7 s21 n21 i22 i23 s30 n30 (n30 : Int) 0 h (Q62x15 M C Q)
  )
 else
  (
  Q (.exit 0) (S62xe0 s7 n7 h)
  )
 ) := by kernel_rfl
theorem L62x5xeq : TEq (L62x5 mk0 C s1 n1 s7 n7 s21 n21 i22 i23 h Q) (L62x5xaux mk0 C s1 n1 s7 n7 s21 n21 i22 i23 h Q) := loop_te (by kernel_rfl)
theorem L62x15xaux : rnd M C k62x15 7530872962 14680194 ⟨.any::vl s1 n1::rep 5 (vl s7 n7::rep 13 (vl s21 n21::vi i22::vi i23::rep 6 (vl s30 n30::vi i31::vi i32::rep 17 []))), h⟩ Q = (
 letK (decide (i32 < i31)) fun b33 =>
 if b33 = true then
  (
  chk (true = true → 0 ≤ i32 ∧ i32 < (n30 : Int)) <|
  atP (adP s30) true fun a35 =>
  gB (ld1 h (Ad.add a35 (Int.toNat i32 * 1))) true fun b36 =>
  chk (true = true → 0 ≤ i32 ∧ i32 < (n7 : Int)) <|
  atP (adP s7) true fun a41 =>
  gB (ld1 h (Ad.add a41 (Int.toNat i32 * 1))) true fun b42 =>
  letK (if b42 = true then true else b36) fun b45 =>
  chk (true = true → 0 ≤ i32 ∧ i32 < (n7 : Int)) <|
  atP (adP s7) true fun a46 =>
  (st1 h (Ad.add a46 (Int.toNat i32 * 1)) (.bool b45)).bind fun h_2 =>
  letK (IntKind.wrap .i64 (i32 + 1)) fun i47 =>
  L62x15 M C s1 n1 s7 n7 s21 n21 i22 i23 s30 n30 i31 i47 h_2 Q
  )
 else
  (
  Q (.exit 2) (S62xe2 s1 n1 s7 n7 s21 n21 i22 i23 h)
  )
 ) := by kernel_rfl
theorem L62x15xeq : TEq (L62x15 mk0 C s1 n1 s7 n7 s21 n21 i22 i23 s30 n30 i31 i32 h Q) (L62x15xaux mk0 C s1 n1 s7 n7 s21 n21 i22 i23 s30 n30 i31 i32 h Q) := loop_te (by kernel_rfl)
theorem X62x5xe0 : Q62x5 M C (.exit 0) (S62xe0 s7 n7 h) = (
 some ((.sl s7 n7), h)
 ) := by kernel_rfl
theorem X62x15xe2 : Q62x15 M C Q (.exit 2) (S62xe2 s1 n1 s7 n7 s21 n21 i22 i23 h) = (
 letK (IntKind.wrap .i64 (i23 + 1)) fun i48 =>
 L62x5 M C s1 n1 s7 n7 s21 n21 i22 i48 h Q
 ) := by kernel_rfl
end
noncomputable section
variable (s0x0 : SA) (n0x0 : Nat) (i0x1 i0x2 i0x3 i0x4 i0x5 : Int) (s0x6 : SA) (n0x6 : Nat) (s1 : SA) (n1 : Nat) (s2x0 : SA) (n2x0 : Nat) (i2x1 i2x2 i2x3 i2x4 i2x5 : Int) (s2x6 : SA) (n2x6 : Nat) (i6 : Int) (s11 : SA) (n11 : Nat) (i12 i13 : Int) (s42 : SA) (n42 : Nat) (i43 i44 : Int) (h : Heap) (Q : Kont R)
def S90xe0 : St := ⟨.any::vl s1 n1::.box [(.sl s2x0 n2x0), (.int .i64 i2x1), (.int .i64 i2x2), (.int .i64 i2x3), (.int .i64 i2x4), (.int .i64 i2x5), (.sl s2x6 n2x6)]::rep 51 [], h⟩
def S90xe2 : St := ⟨.any::vl s1 n1::rep 52 [], h⟩
def S90xe4 : St := ⟨.any::vl s1 n1::.box [(.sl s2x0 n2x0), (.int .i64 i2x1), (.int .i64 i2x2), (.int .i64 i2x3), (.int .i64 i2x4), (.int .i64 i2x5), (.sl s2x6 n2x6)]::rep 3 (vi i6::rep 47 []), h⟩
def Q90x4 (M : Mk) (C : Cal) : Kont (AV × Heap) := (blockQ 0 (seqQ (evalE M C k90x3) (seqQ (evalE M C k90x1) (endQ []))))
def L90x4 : Option R := loopE (evalE M C k90x4) 14342 6 ⟨.any::vl s1 n1::.box [(.sl s2x0 n2x0), (.int .i64 i2x1), (.int .i64 i2x2), (.int .i64 i2x3), (.int .i64 i2x4), (.int .i64 i2x5), (.sl s2x6 n2x6)]::rep 8 (vl s11 n11::vi i12::vi i13::rep 40 []), h⟩ Q
def Q90x15 (M : Mk) (C : Cal) : Kont (AV × Heap) := (blockQ 2 (seqQ (evalE M C k90x14) (seqQ (evalE M C k90x12) (endQ []))))
def L90x15 : Option R := loopE (evalE M C k90x15) 70 2 ⟨.any::vl s1 n1::.box [(.sl s2x0 n2x0), (.int .i64 i2x1), (.int .i64 i2x2), (.int .i64 i2x3), (.int .i64 i2x4), (.int .i64 i2x5), (.sl s2x6 n2x6)]::rep 3 (vi i6::rep 47 []), h⟩ Q
def Q90x25 : Kont R := (blockQ 4 (seqQ (evalE M C k90x24) (blockQ 3 (seqQ (evalE M C k90x21) (seqQ (evalE M C k90x20) (roundQ M C k90x15 70 2 Q))))))
def L90x25 : Option R := loopE (evalE M C k90x25) 30786325577798 70 ⟨.any::vl s1 n1::.box [(.sl s2x0 n2x0), (.int .i64 i2x1), (.int .i64 i2x2), (.int .i64 i2x3), (.int .i64 i2x4), (.int .i64 i2x5), (.sl s2x6 n2x6)]::rep 3 (vi i6::rep 35 (vl s42 n42::vi i43::vi i44::rep 9 [])), h⟩ Q
theorem r90 (s0x0 : SA) (n0x0 : Nat) (i0x1 i0x2 : Int) (i0x3 i0x4 i0x5 : Int) (s0x6 : SA) (n0x6 : Nat) (s1 : SA) (n1 : Nat) (h : Heap) : runE M C c90 [(.agg [(.sl s0x0 n0x0), (.int .i64 i0x1), (.int .i64 i0x2), (.int .i64 i0x3), (.int .i64 i0x4), (.int .i64 i0x5), (.sl s0x6 n0x6)]), (.sl s1 n1)] h = (
 (C 31 [(.agg [(.int .i64 i0x1), (.int .i64 i0x2), (.int .i64 i0x3), (.int .i64 i0x4), (.int .i64 i0x5), (.sl s0x6 n0x6)])] h).bind fun r11 =>
 gL (some r11.1) true fun s11 n11 =>
 L90x4 M C s1 n1 s0x0 n0x0 i0x1 i0x2 i0x3 i0x4 i0x5 s0x6 n0x6 s11 n11 (n11 : Int) 0 r11.2 (Q90x4 M C)
 ) := by kernel_rfl
theorem e90 : TEq (E 90 [(.agg [(.sl s0x0 n0x0), (.int .i64 i0x1), (.int .i64 i0x2), (.int .i64 i0x3), (.int .i64 i0x4), (.int .i64 i0x5), (.sl s0x6 n0x6)]), (.sl s1 n1)] h) (r90 mk0 E s0x0 n0x0 i0x1 i0x2 i0x3 i0x4 i0x5 s0x6 n0x6 s1 n1 h) := (EV_eq (P := Try.prog) (T := T0) rfl cf90 _ h).trans (r90 mk0 E s0x0 n0x0 i0x1 i0x2 i0x3 i0x4 i0x5 s0x6 n0x6 s1 n1 h)
theorem L90x4xaux : rnd M C k90x4 14342 6 ⟨.any::vl s1 n1::.box [(.sl s2x0 n2x0), (.int .i64 i2x1), (.int .i64 i2x2), (.int .i64 i2x3), (.int .i64 i2x4), (.int .i64 i2x5), (.sl s2x6 n2x6)]::rep 8 (vl s11 n11::vi i12::vi i13::rep 40 []), h⟩ Q = (
 letK (decide (i13 < i12)) fun b14 =>
 if b14 = true then
  (
  chk (true = true → 0 ≤ i13 ∧ i13 < (n11 : Int)) <|
  atP (adP s11) true fun a15 =>
  gI .i64 (ld1 h (Ad.add a15 (Int.toNat i13 * 1))) true fun i16 =>
  chk (true = true → 0 ≤ i16 ∧ i16 < (n1 : Int)) <|
  atP (adP s1) true fun a19 =>
  (st1 h (Ad.add a19 (Int.toNat i16 * 1)) (.bool true)).bind fun h_2 =>
  letK (IntKind.wrap .i64 (i13 + 1)) fun i20 =>
  L90x4 M C s1 n1 s2x0 n2x0 i2x1 i2x2 i2x3 i2x4 i2x5 s2x6 n2x6 s11 n11 i12 i20 h_2 Q
  )
 else
  (
  Q (.exit 0) (S90xe0 s1 n1 s2x0 n2x0 i2x1 i2x2 i2x3 i2x4 i2x5 s2x6 n2x6 h)
  )
 ) := by kernel_rfl
theorem L90x4xeq : TEq (L90x4 mk0 C s1 n1 s2x0 n2x0 i2x1 i2x2 i2x3 i2x4 i2x5 s2x6 n2x6 s11 n11 i12 i13 h Q) (L90x4xaux mk0 C s1 n1 s2x0 n2x0 i2x1 i2x2 i2x3 i2x4 i2x5 s2x6 n2x6 s11 n11 i12 i13 h Q) := loop_te (by kernel_rfl)
theorem X90x4xe0 : Q90x4 M C (.exit 0) (S90xe0 s1 n1 s2x0 n2x0 i2x1 i2x2 i2x3 i2x4 i2x5 s2x6 n2x6 h) = (
 letK (IntKind.wrap .i64 ((n2x0 : Int) - 1)) fun i24 =>
 L90x15 M C s1 n1 s2x0 n2x0 i2x1 i2x2 i2x3 i2x4 i2x5 s2x6 n2x6 i24 h (Q90x15 M C)
 ) := by kernel_rfl
theorem L90x15xaux (s1 : SA) (n1 : Nat) (s2x0 : SA) (n2x0 : Nat) (i2x1 i2x2 : Int) (i2x3 i2x4 i2x5 : Int) (s2x6 : SA) (n2x6 : Nat) (i6 : Int) (h : Heap) (Q : Kont R) : rnd M C k90x15 70 2 ⟨.any::vl s1 n1::.box [(.sl s2x0 n2x0), (.int .i64 i2x1), (.int .i64 i2x2), (.int .i64 i2x3), (.int .i64 i2x4), (.int .i64 i2x5), (.sl s2x6 n2x6)]::rep 3 (vi i6::rep 47 []), h⟩ Q = (
 letK (decide (0 ≤ i6)) fun b26 =>
 if b26 = true then
  (
  chk (true = true → 0 ≤ i6 ∧ i6 < (n2x0 : Int)) <|
  atP (adP s2x0) true fun a33 =>
  gCells (ldN h (Ad.add a33 (Int.toNat i6 * 6)) 6) true fun l34 =>
  gI .i64 (l34[0]?) true fun i34x0 =>
  gI .i64 (l34[1]?) true fun i34x1 =>
  gI .i64 (l34[2]?) true fun i34x2 =>
  gI .i64 (l34[3]?) true fun i34x3 =>
  gI .i64 (l34[4]?) true fun i34x4 =>
  gL (l34[5]?) true fun s34x5 n34x5 =>
  (C 30 [(.agg [(.int .i64 i34x0), (.int .i64 i34x1), (.int .i64 i34x2), (.int .i64 i34x3), (.int .i64 i34x4), (.sl s34x5 n34x5)])] h).bind fun r35 =>
  gI .i64 (some r35.1) true fun i35 =>
  chk (true = true → 0 ≤ i35 ∧ i35 < (n1 : Int)) <|
  atP (adP s1) true fun a36 =>
  (st1 r35.2 (Ad.add a36 (Int.toNat i35 * 1)) (.bool false)).bind fun h_2 =>
  chk (true = true → 0 ≤ i6 ∧ i6 < (n2x0 : Int)) <|
  atP (adP s2x0) true fun a40 =>
  gCells (ldN h_2 (Ad.add a40 (Int.toNat i6 * 6)) 6) true fun l41 =>
  gI .i64 (l41[0]?) true fun i41x0 =>
  gI .i64 (l41[1]?) true fun i41x1 =>
  gI .i64 (l41[2]?) true fun i41x2 =>
  gI .i64 (l41[3]?) true fun i41x3 =>
  gI .i64 (l41[4]?) true fun i41x4 =>
  gL (l41[5]?) true fun s41x5 n41x5 =>
  (C 29 [(.agg [(.int .i64 i41x0), (.int .i64 i41x1), (.int .i64 i41x2), (.int .i64 i41x3), (.int .i64 i41x4), (.sl s41x5 n41x5)])] h_2).bind fun r42 =>
  gL (some r42.1) true fun s42 n42 =>
  L90x25 M C s1 n1 s2x0 n2x0 i2x1 i2x2 i2x3 i2x4 i2x5 s2x6 n2x6 i6 s42 n42 (n42 : Int) 0 r42.2 (Q90x25 M C Q)
  )
 else
  (
  Q (.exit 2) (S90xe2 s1 n1 h)
  )
 ) := by kernel_rfl
theorem L90x15xeq : TEq (L90x15 mk0 C s1 n1 s2x0 n2x0 i2x1 i2x2 i2x3 i2x4 i2x5 s2x6 n2x6 i6 h Q) (L90x15xaux mk0 C s1 n1 s2x0 n2x0 i2x1 i2x2 i2x3 i2x4 i2x5 s2x6 n2x6 i6 h Q) := loop_te (by kernel_rfl)
theorem L90x25xaux : rnd M C k90x25 30786325577798 70 ⟨.any::vl s1 n1::.box [(.sl s2x0 n2x0), (.int .i64 i2x1), (.int .i64 i2x2), (.int .i64 i2x3), (.int .i64 i2x4), (.int .i64 i2x5), (.sl s2x6 n2x6)]::rep 3 (vi i6::rep 35 (vl s42 n42::vi i43::vi i44::rep 9 [])), h⟩ Q = (
 letK (decide (i44 < i43)) fun b45 =>
 if b45 = true then
  (
  chk (true = true → 0 ≤ i44 ∧ i44 < (n42 : Int)) <|
  atP (adP s42) true fun a46 =>
  gI .i64 (ld1 h (Ad.add a46 (Int.toNat i44 * 1))) true fun i47 =>
  chk (true = true → 0 ≤ i47 ∧ i47 < (n1 : Int)) <|
  atP (adP s1) true fun a50 =>
  (st1 h (Ad.add a50 (Int.toNat i47 * 1)) (.bool true)).bind fun h_2 =>
  letK (IntKind.wrap .i64 (i44 + 1)) fun i51 =>
  L90x25 M C s1 n1 s2x0 n2x0 i2x1 i2x2 i2x3 i2x4 i2x5 s2x6 n2x6 i6 s42 n42 i43 i51 h_2 Q
  )
 else
  (
  Q (.exit 4) (S90xe4 s1 n1 s2x0 n2x0 i2x1 i2x2 i2x3 i2x4 i2x5 s2x6 n2x6 i6 h)
  )
 ) := by kernel_rfl
theorem L90x25xeq : TEq (L90x25 mk0 C s1 n1 s2x0 n2x0 i2x1 i2x2 i2x3 i2x4 i2x5 s2x6 n2x6 i6 s42 n42 i43 i44 h Q) (L90x25xaux mk0 C s1 n1 s2x0 n2x0 i2x1 i2x2 i2x3 i2x4 i2x5 s2x6 n2x6 i6 s42 n42 i43 i44 h Q) := loop_te (by kernel_rfl)
theorem X90x15xe2 : Q90x15 M C (.exit 2) (S90xe2 s1 n1 h) = (
 chk (true = true → (0 : Int) ≤ 0 ∧ (0 : Int) < (n1 : Int)) <|
 atP (adP s1) true fun a53 =>
 (st1 h (Ad.add a53 (Int.toNat 0 * 1)) (.bool false)).bind fun h_2 =>
 some (.tup [], h_2)
 ) := by kernel_rfl
theorem X90x25xe4 : Q90x25 M C Q (.exit 4) (S90xe4 s1 n1 s2x0 n2x0 i2x1 i2x2 i2x3 i2x4 i2x5 s2x6 n2x6 i6 h) = (
 letK (IntKind.wrap .i64 (i6 - 1)) fun i28 =>
 L90x15 M C s1 n1 s2x0 n2x0 i2x1 i2x2 i2x3 i2x4 i2x5 s2x6 n2x6 i28 h Q
 ) := by kernel_rfl
end
noncomputable section
variable (s0 : SA) (n0 : Nat) (s1 : SA) (n1 : Nat) (b4 : Bool) (i12 i13 : Int) (h : Heap) (Q : Kont R)
def S91xr : St := ⟨rep 4 (vb b4::rep 21 []), h⟩
def S91xe0 : St := ⟨(rep 26 []), h⟩
def Q91x9 (M : Mk) (C : Cal) : Kont (AV × Heap) := (blockQ 0 (seqQ (evalE M C k91x8) (seqQ (evalE M C k91x6) (endQ [.tmp 4]))))
def L91x9 : Option R := loopE (evalE M C k91x9) 12291 0 ⟨vl s0 n0::vl s1 n1::rep 10 (vi i12::vi i13::rep 12 []), h⟩ Q
theorem r91 : runE M C c91 [(.sl s0 n0), (.sl s1 n1)] h = (
 letK (!decide (((n0 : Int) : Int) = (n1 : Int))) fun b10 =>
 if b10 = true then
  (
  some ((.bool false), h)
  )
 else
  (
  L91x9 M C s0 n0 s1 n1 (n0 : Int) 0 h (Q91x9 M C)
  )
 ) := by kernel_rfl
theorem e91 : TEq (E 91 [(.sl s0 n0), (.sl s1 n1)] h) (r91 mk0 E s0 n0 s1 n1 h) := (EV_eq (P := Try.prog) (T := T0) rfl cf91 _ h).trans (r91 mk0 E s0 n0 s1 n1 h)
theorem L91x9xaux : rnd M C k91x9 12291 0 ⟨vl s0 n0::vl s1 n1::rep 10 (vi i12::vi i13::rep 12 []), h⟩ Q = (
 letK (decide (i13 < i12)) fun b14 =>
 if b14 = true then
  (
  chk (true = true → 0 ≤ i13 ∧ i13 < (n0 : Int)) <|
  atP (adP s0) true fun a18 =>
  gB (ld1 h (Ad.add a18 (Int.toNat i13 * 1))) true fun b19 =>
  chk (true = true → 0 ≤ i13 ∧ i13 < (n1 : Int)) <|
  atP (adP s1) true fun a22 =>
  gB (ld1 h (Ad.add a22 (Int.toNat i13 * 1))) true fun b23 =>
  letK (!(b19 == b23)) fun b24 =>
  if b24 = true then
   (
   Q .ret (S91xr false h)
   )
  else
   (
   letK (IntKind.wrap .i64 (i13 + 1)) fun i25 =>
   L91x9 M C s0 n0 s1 n1 i12 i25 h Q
   )
  )
 else
  (
  Q (.exit 0) (S91xe0 h)
  )
 ) := by kernel_rfl
theorem L91x9xeq : TEq (L91x9 mk0 C s0 n0 s1 n1 i12 i13 h Q) (L91x9xaux mk0 C s0 n0 s1 n1 i12 i13 h Q) := loop_te (by kernel_rfl)
theorem X91x9xr : Q91x9 M C .ret (S91xr b4 h) = (
 some ((.bool b4), h)
 ) := by kernel_rfl
theorem X91x9xe0 : Q91x9 M C (.exit 0) (S91xe0 h) = (
 some ((.bool true), h)
 ) := by kernel_rfl
end
noncomputable section
variable (i0x0 : Int) (s0x1 : SA) (n0x1 : Nat) (i0x2 : Int) (s0x3 : SA) (n0x3 : Nat) (i1x0 : Int) (s1x1 : SA) (n1x1 : Nat) (i1x2 : Int) (s1x3 : SA) (n1x3 : Nat) (s3 : SA) (n3 : Nat) (b5 : Bool) (i6 i13 i14 : Int) (h : Heap) (Q : Kont R)
def S61xe0 : St := ⟨.any::.box [(.int .i64 i1x0), (.sl s1x1 n1x1), (.int .i64 i1x2), (.sl s1x3 n1x3)]::.any::vl s3 n3::rep 52 [], h⟩
def S61xe2 : St := ⟨rep 3 (vl s3 n3::rep 52 []), h⟩
def S61xe4 : St := ⟨.any::.box [(.int .i64 i1x0), (.sl s1x1 n1x1), (.int .i64 i1x2), (.sl s1x3 n1x3)]::.any::vl s3 n3::.any::vb b5::rep 50 [], h⟩
def Q61x5 (M : Mk) (C : Cal) : Kont (AV × Heap) := (blockQ 0 (seqQ (evalE M C k61x4) (seqQ (evalE M C k61x2) (endQ [.tmp 2]))))
def L61x5 : Option R := loopE (evalE M C k61x5) 24586 10 ⟨.any::.box [(.int .i64 i1x0), (.sl s1x1 n1x1), (.int .i64 i1x2), (.sl s1x3 n1x3)]::.any::vl s3 n3::rep 9 (vi i13::vi i14::rep 41 []), h⟩ Q
def Q61x16 (M : Mk) (C : Cal) : Kont (AV × Heap) := (blockQ 2 (seqQ (evalE M C k61x15) (seqQ (evalE M C k61x13) (endQ [.tmp 2]))))
def L61x16 : Option R := loopE (evalE M C k61x16) 42 8 ⟨.any::.box [(.int .i64 i1x0), (.sl s1x1 n1x1), (.int .i64 i1x2), (.sl s1x3 n1x3)]::.any::vl s3 n3::.any::vb b5::rep 50 [], h⟩ Q
def Q61x25 : Kont R := (blockQ 4 (seqQ (evalE M C k61x24) (blockQ 3 (seqQ (evalE M C k61x21) (roundQ M C k61x16 42 8 Q)))))
def L61x25 : Option R := loopE (evalE M C k61x25) 106 42 ⟨.any::.box [(.int .i64 i1x0), (.sl s1x1 n1x1), (.int .i64 i1x2), (.sl s1x3 n1x3)]::.any::vl s3 n3::.any::vb b5::vi i6::rep 49 [], h⟩ Q
def J61x36 : Option R := M R (blockQ 5 (seqQ (evalE M C k61x31) (seqQ (evalE M C k61x30) (roundQ M C k61x25 106 42 Q)))) (.any::.box [(.int .i64 i1x0), (.sl s1x1 n1x1), (.int .i64 i1x2), (.sl s1x3 n1x3)]::.any::vl s3 n3::.any::vb b5::vi i6::rep 49 []) h
theorem r61 : runE M C c61 [(.agg [(.int .i64 i0x0), (.sl s0x1 n0x1), (.int .i64 i0x2), (.sl s0x3 n0x3)])] h = (
 chk ((0 : Int) ≤ (n0x3 : Int) ∧ ((n0x3 : Int) : Int) ≤ (n0x3 : Int) ∧ (n0x3 : Int) * ((24 : Nat) : Int) ≤ 70368744177664) <|
 newK h (.cells (repl (Int.toNat (n0x3 : Int)) [(.sl .nil 0)]) (.grow 1) 0) fun h_2 =>
 letK (Int.toNat (n0x3 : Int)) fun n11 =>
 L61x5 M C i0x0 s0x1 n0x1 i0x2 s0x3 n0x3 (.pos ⟨List.length h, 0, 0⟩) n11 (n11 : Int) 0 h_2 (Q61x5 M C)
 ) := by kernel_rfl
theorem e61 : TEq (E 61 [(.agg [(.int .i64 i0x0), (.sl s0x1 n0x1), (.int .i64 i0x2), (.sl s0x3 n0x3)])] h) (r61 mk0 E i0x0 s0x1 n0x1 i0x2 s0x3 n0x3 h) := (EV_eq (P := Try.prog) (T := T0) rfl cf61 _ h).trans (r61 mk0 E i0x0 s0x1 n0x1 i0x2 s0x3 n0x3 h)
theorem L61x5xaux : rnd M C k61x5 24586 10 ⟨.any::.box [(.int .i64 i1x0), (.sl s1x1 n1x1), (.int .i64 i1x2), (.sl s1x3 n1x3)]::.any::vl s3 n3::rep 9 (vi i13::vi i14::rep 41 []), h⟩ Q = (
 letK (decide (i14 < i13)) fun b15 =>
 if b15 = true then
  (
  chk (0 ≤ i1x2 ∧ i1x2 ≤ i1x2 ∧ i1x2 * ((1 : Nat) : Int) ≤ 70368744177664) <|
  newK h (.cells (repl (Int.toNat i1x2) [(.bool false)]) (.grow 1) 0) fun h_2 =>
  letK (Int.toNat i1x2) fun n21 =>
  chk (true = true → 0 ≤ i14 ∧ i14 < (n3 : Int)) <|
  atP (adP s3) true fun a22 =>
  (st1 h_2 (Ad.add a22 (Int.toNat i14 * 1)) (.sl (.pos ⟨List.length h, 0, 0⟩) n21)).bind fun h_3 =>
  letK (IntKind.wrap .i64 (i14 + 1)) fun i23 =>
  L61x5 M C i1x0 s1x1 n1x1 i1x2 s1x3 n1x3 s3 n3 i13 i23 h_3 Q
  )
 else
  (
  Q (.exit 0) (S61xe0 i1x0 s1x1 n1x1 i1x2 s1x3 n1x3 s3 n3 h)
  )
 ) := by kernel_rfl
theorem L61x5xeq : TEq (L61x5 mk0 C i1x0 s1x1 n1x1 i1x2 s1x3 n1x3 s3 n3 i13 i14 h Q) (L61x5xaux mk0 C i1x0 s1x1 n1x1 i1x2 s1x3 n1x3 s3 n3 i13 i14 h Q) := loop_te (by kernel_rfl)
theorem X61x5xe0 : Q61x5 M C (.exit 0) (S61xe0 i1x0 s1x1 n1x1 i1x2 s1x3 n1x3 s3 n3 h) = (
 L61x16 M C i1x0 s1x1 n1x1 i1x2 s1x3 n1x3 s3 n3 true h (Q61x16 M C)
 ) := by kernel_rfl
theorem L61x16xaux : rnd M C k61x16 42 8 ⟨.any::.box [(.int .i64 i1x0), (.sl s1x1 n1x1), (.int .i64 i1x2), (.sl s1x3 n1x3)]::.any::vl s3 n3::.any::vb b5::rep 50 [], h⟩ Q = (
 if b5 = true then
  (
  letK (IntKind.wrap .i64 ((n1x3 : Int) - 1)) fun i28 =>
  L61x25 M C i1x0 s1x1 n1x1 i1x2 s1x3 n1x3 s3 n3 false i28 h (Q61x25 M C Q)
  )
 else
  (
  Q (.exit 2) (S61xe2 s3 n3 h)
  )
 ) := by kernel_rfl
theorem L61x16xeq : TEq (L61x16 mk0 C i1x0 s1x1 n1x1 i1x2 s1x3 n1x3 s3 n3 b5 h Q) (L61x16xaux mk0 C i1x0 s1x1 n1x1 i1x2 s1x3 n1x3 s3 n3 b5 h Q) := loop_te (by kernel_rfl)
theorem L61x25xaux : rnd M C k61x25 106 42 ⟨.any::.box [(.int .i64 i1x0), (.sl s1x1 n1x1), (.int .i64 i1x2), (.sl s1x3 n1x3)]::.any::vl s3 n3::.any::vb b5::vi i6::rep 49 [], h⟩ Q = (
 letK (decide (0 ≤ i6)) fun b30 =>
 if b30 = true then
  (
  (C 62 [(.agg [(.int .i64 i1x0), (.sl s1x1 n1x1), (.int .i64 i1x2), (.sl s1x3 n1x3)]), (.sl s3 n3), (.int .i64 i6)] h).bind fun r36 =>
  gL (some r36.1) true fun s36 n36 =>
  chk (true = true → 0 ≤ i6 ∧ i6 < (n1x3 : Int)) <|
  atP (adP s1x3) true fun a40 =>
  gCells (ldN r36.2 (Ad.add a40 (Int.toNat i6 * 7)) 7) true fun l41 =>
  gL (l41[0]?) true fun s41x0 n41x0 =>
  gI .i64 (l41[1]?) true fun i41x1 =>
  gI .i64 (l41[2]?) true fun i41x2 =>
  gI .i64 (l41[3]?) true fun i41x3 =>
  gI .i64 (l41[4]?) true fun i41x4 =>
  gI .i64 (l41[5]?) true fun i41x5 =>
  gL (l41[6]?) true fun s41x6 n41x6 =>
  (C 90 [(.agg [(.sl s41x0 n41x0), (.int .i64 i41x1), (.int .i64 i41x2), (.int .i64 i41x3), (.int .i64 i41x4), (.int .i64 i41x5), (.sl s41x6 n41x6)]), (.sl s36 n36)] r36.2).bind fun r43 =>
  gT 0 r43.1 true fun u43 =>
  chk (true = true → 0 ≤ i6 ∧ i6 < (n3 : Int)) <|
  atP (adP s3) true fun a47 =>
  gL (ld1 r43.2 (Ad.add a47 (Int.toNat i6 * 1))) true fun s48 n48 =>
  (C 91 [(.sl s36 n36), (.sl s48 n48)] r43.2).bind fun r49 =>
  gB (some r49.1) true fun b49 =>
  if (!b49) = true then
   (
   chk (true = true → 0 ≤ i6 ∧ i6 < (n3 : Int)) <|
   atP (adP s3) true fun a54 =>
   (st1 r49.2 (Ad.add a54 (Int.toNat i6 * 1)) (.sl s36 n36)).bind fun h_2 =>
   J61x36 M C i1x0 s1x1 n1x1 i1x2 s1x3 n1x3 s3 n3 true i6 h_2 Q
   )
  else
   (
   J61x36 M C i1x0 s1x1 n1x1 i1x2 s1x3 n1x3 s3 n3 b5 i6 r49.2 Q
   )
  )
 else
  (
  Q (.exit 4) (S61xe4 i1x0 s1x1 n1x1 i1x2 s1x3 n1x3 s3 n3 b5 h)
  )
 ) := by kernel_rfl
theorem L61x25xeq : TEq (L61x25 mk0 C i1x0 s1x1 n1x1 i1x2 s1x3 n1x3 s3 n3 b5 i6 h Q) (L61x25xaux mk0 C i1x0 s1x1 n1x1 i1x2 s1x3 n1x3 s3 n3 b5 i6 h Q) := loop_te (by kernel_rfl)
theorem J61x36xaux : (forceK tk (.any::.box [(.int .i64 i1x0), (.sl s1x1 n1x1), (.int .i64 i1x2), (.sl s1x3 n1x3)]::.any::vl s3 n3::.any::vb b5::vi i6::rep 49 []) fun e => (blockQ 5 (seqQ (evalE M C k61x31) (seqQ (evalE M C k61x30) (roundQ M C k61x25 106 42 Q)))) .normal ⟨e, h⟩) = (
 letK (IntKind.wrap .i64 (i6 - 1)) fun i32 =>
 L61x25 M C i1x0 s1x1 n1x1 i1x2 s1x3 n1x3 s3 n3 b5 i32 h Q
 ) := by kernel_rfl
theorem J61x36xeq : TEq (J61x36 mk0 C i1x0 s1x1 n1x1 i1x2 s1x3 n1x3 s3 n3 b5 i6 h Q) (J61x36xaux mk0 C i1x0 s1x1 n1x1 i1x2 s1x3 n1x3 s3 n3 b5 i6 h Q) := join_te
theorem X61x16xe2 : Q61x16 M C (.exit 2) (S61xe2 s3 n3 h) = (
 some ((.sl s3 n3), h)
 ) := by kernel_rfl
theorem X61x25xe4 : Q61x25 M C Q (.exit 4) (S61xe4 i1x0 s1x1 n1x1 i1x2 s1x3 n1x3 s3 n3 b5 h) = (
 L61x16 M C i1x0 s1x1 n1x1 i1x2 s1x3 n1x3 s3 n3 b5 h Q
 ) := by kernel_rfl
end
noncomputable section
variable (i0x0 : Int) (s0x1 : SA) (n0x1 : Nat) (i0x2 : Int) (s0x3 : SA) (n0x3 : Nat) (i1x0 : Int) (s1x1 : SA) (n1x1 : Nat) (i1x2 : Int) (s1x3 : SA) (n1x3 : Nat) (i2 i5 : Int) (s7x0 : SA) (n7x0 : Nat) (i7x1 i7x2 i7x3 i7x4 i7x5 : Int) (s7x6 : SA) (n7x6 : Nat) (s12 : SA) (n12 : Nat) (i13 : Int) (s35 : SA) (n35 : Nat) (i36 i37 : Int) (s56 : SA) (n56 : Nat) (i57 i58 : Int) (s70 : SA) (n70 : Nat) (i71 i72 : Int) (h : Heap) (Q : Kont R)
def S26xr : St := ⟨(.any :: .any :: (vi i2::rep 114 [])), h⟩
def S26xe0 : St := ⟨.any::.box [(.int .i64 i1x0), (.sl s1x1 n1x1), (.int .i64 i1x2), (.sl s1x3 n1x3)]::rep 115 [], h⟩
def S26xe2 : St := ⟨.any::.box [(.int .i64 i1x0), (.sl s1x1 n1x1), (.int .i64 i1x2), (.sl s1x3 n1x3)]::rep 115 [], h⟩
def S26xe4 : St := ⟨.any::.box [(.int .i64 i1x0), (.sl s1x1 n1x1), (.int .i64 i1x2), (.sl s1x3 n1x3)]::rep 3 (vi i5::.any::.box [(.sl s7x0 n7x0), (.int .i64 i7x1), (.int .i64 i7x2), (.int .i64 i7x3), (.int .i64 i7x4), (.int .i64 i7x5), (.sl s7x6 n7x6)]::rep 48 (vl s56 n56::vi i57::vi i58::rep 58 [])), h⟩
def S26xe6 : St := ⟨(rep 117 []), h⟩
def Q26x14 (M : Mk) (C : Cal) : Kont (AV × Heap) := (blockQ 0 (seqQ (evalE M C k26x13) (seqQ (evalE M C k26x11) (endQ [.tmp 2]))))
def L26x14 : Option R := loopE (evalE M C k26x14) 240518168578 2 ⟨.any::.box [(.int .i64 i1x0), (.sl s1x1 n1x1), (.int .i64 i1x2), (.sl s1x3 n1x3)]::rep 33 (vl s35 n35::vi i36::vi i37::rep 79 []), h⟩ Q
def Q26x35 (M : Mk) (C : Cal) : Kont (AV × Heap) := (blockQ 2 (seqQ (evalE M C k26x34) (seqQ (evalE M C k26x32) (endQ [.tmp 2]))))
def L26x35 : Option R := loopE (evalE M C k26x35) 504403158265495586 2 ⟨.any::.box [(.int .i64 i1x0), (.sl s1x1 n1x1), (.int .i64 i1x2), (.sl s1x3 n1x3)]::rep 3 (vi i5::rep 50 (vl s56 n56::vi i57::vi i58::rep 58 [])), h⟩ Q
def Q26x52 : Kont R := (blockQ 4 (seqQ (evalE M C k26x51) (seqQ (evalE M C k26x49) (blockQ 3 (seqQ (evalE M C k26x41) (seqQ (evalE M C k26x40) (roundQ M C k26x35 504403158265495586 2 Q)))))))
def L26x52 : Option R := loopE (evalE M C k26x52) 8264645748180144619682 504403158265495714 ⟨.any::.box [(.int .i64 i1x0), (.sl s1x1 n1x1), (.int .i64 i1x2), (.sl s1x3 n1x3)]::rep 3 (vi i5::.any::.box [(.sl s7x0 n7x0), (.int .i64 i7x1), (.int .i64 i7x2), (.int .i64 i7x3), (.int .i64 i7x4), (.int .i64 i7x5), (.sl s7x6 n7x6)]::rep 48 (vl s56 n56::vi i57::vi i58::rep 11 (vl s70 n70::vi i71::vi i72::rep 44 []))), h⟩ Q
def Q26x74 (M : Mk) (C : Cal) : Kont (AV × Heap) := (blockQ 6 (seqQ (evalE M C k26x73) (seqQ (evalE M C k26x71) (endQ [.tmp 2]))))
def L26x74 : Option R := loopE (evalE M C k26x74) 12290 0 ⟨.any::.box [(.int .i64 i1x0), (.sl s1x1 n1x1), (.int .i64 i1x2), (.sl s1x3 n1x3)]::rep 10 (vl s12 n12::vi i13::rep 103 []), h⟩ Q
theorem r26 : runE M C c26 [(.agg [(.int .i64 i0x0), (.sl s0x1 n0x1), (.int .i64 i0x2), (.sl s0x3 n0x3)])] h = (
 letK (decide ((6 : Int) < (n0x1 : Int))) fun b17 =>
 gL (some (.sl s0x3 n0x3)) (!b17) fun s20 n20 =>
 letK (decide ((4096 : Int) < (n20 : Int))) fun b22 =>
 letK (if b17 = true then true else b22) fun b23 =>
 gI .i64 (some (.int .i64 i0x2)) (!b23) fun i26 =>
 (callO (!b23) (C 58 [(.int .i64 i26), (.int .i64 1), (.int .i64 8192)] h) (.bool false) h).bind fun r27 =>
 gB (some r27.1) (!b23) fun b27 =>
 letK (if b23 = true then true else (!b27)) fun b29 =>
 if b29 = true then
  (
  some ((.int .i64 2), r27.2)
  )
 else
  (
  letK (decide (((n0x3 : Int) : Int) = 0)) fun b33 =>
  if b33 = true then
   (
   some ((.int .i64 3), r27.2)
   )
  else
   (
   L26x14 M C i0x0 s0x1 n0x1 i0x2 s0x3 n0x3 s0x1 n0x1 (n0x1 : Int) 0 r27.2 (Q26x14 M C)
   )
  )
 ) := by kernel_rfl
theorem e26 : TEq (E 26 [(.agg [(.int .i64 i0x0), (.sl s0x1 n0x1), (.int .i64 i0x2), (.sl s0x3 n0x3)])] h) (r26 mk0 E i0x0 s0x1 n0x1 i0x2 s0x3 n0x3 h) := (EV_eq (P := Try.prog) (T := T0) rfl cf26 _ h).trans (r26 mk0 E i0x0 s0x1 n0x1 i0x2 s0x3 n0x3 h)
theorem L26x14xaux : rnd M C k26x14 240518168578 2 ⟨.any::.box [(.int .i64 i1x0), (.sl s1x1 n1x1), (.int .i64 i1x2), (.sl s1x3 n1x3)]::rep 33 (vl s35 n35::vi i36::vi i37::rep 79 []), h⟩ Q = (
 letK (decide (i37 < i36)) fun b38 =>
 if b38 = true then
  (
  chk (true = true → 0 ≤ i37 ∧ i37 < (n35 : Int)) <|
  atP (adP s35) true fun a40 =>
  gI .i64 (ld1 h (Ad.add a40 (Int.toNat i37 * 1))) true fun i41 =>
  letK (IntKind.wrap .i64 (i1x2 - 1)) fun i45 =>
  (C 58 [(.int .i64 i41), (.int .i64 1), (.int .i64 i45)] h).bind fun r46 =>
  gB (some r46.1) true fun b46 =>
  if (!b46) = true then
   (
   Q .ret (S26xr 6 r46.2)
   )
  else
   (
   chkC (true = true → 0 ≤ i37 ∧ hiOk r46.2 s1x1 n1x1 1 i37) <|
   letK (Int.toNat i37) fun n51 =>
   (C 20 [(.sl s1x1 n51), (.int .i64 i41)] r46.2).bind fun r53 =>
   gB (some r53.1) true fun b53 =>
   if b53 = true then
    (
    Q .ret (S26xr 7 r53.2)
    )
   else
    (
    letK (IntKind.wrap .i64 (i37 + 1)) fun i54 =>
    L26x14 M C i1x0 s1x1 n1x1 i1x2 s1x3 n1x3 s35 n35 i36 i54 r53.2 Q
    )
   )
  )
 else
  (
  Q (.exit 0) (S26xe0 i1x0 s1x1 n1x1 i1x2 s1x3 n1x3 h)
  )
 ) := by kernel_rfl
theorem L26x14xeq : TEq (L26x14 mk0 C i1x0 s1x1 n1x1 i1x2 s1x3 n1x3 s35 n35 i36 i37 h Q) (L26x14xaux mk0 C i1x0 s1x1 n1x1 i1x2 s1x3 n1x3 s35 n35 i36 i37 h Q) := loop_te (by kernel_rfl)
theorem X26x14xr : Q26x14 M C .ret (S26xr i2 h) = (
 some ((.int .i64 i2), h)
 ) := by kernel_rfl
theorem X26x14xe0 : Q26x14 M C (.exit 0) (S26xe0 i1x0 s1x1 n1x1 i1x2 s1x3 n1x3 h) = (
 L26x35 M C i1x0 s1x1 n1x1 i1x2 s1x3 n1x3 0 s1x3 n1x3 (n1x3 : Int) 0 h (Q26x35 M C)
 ) := by kernel_rfl
theorem L26x35xaux : rnd M C k26x35 504403158265495586 2 ⟨.any::.box [(.int .i64 i1x0), (.sl s1x1 n1x1), (.int .i64 i1x2), (.sl s1x3 n1x3)]::rep 3 (vi i5::rep 50 (vl s56 n56::vi i57::vi i58::rep 58 [])), h⟩ Q = (
 letK (decide (i58 < i57)) fun b59 =>
 if b59 = true then
  (
  chk (true = true → 0 ≤ i58 ∧ i58 < (n56 : Int)) <|
  atP (adP s56) true fun a60 =>
  gCells (ldN h (Ad.add a60 (Int.toNat i58 * 7)) 7) true fun l61 =>
  gL (l61[0]?) true fun s61x0 n61x0 =>
  gI .i64 (l61[1]?) true fun i61x1 =>
  gI .i64 (l61[2]?) true fun i61x2 =>
  gI .i64 (l61[3]?) true fun i61x3 =>
  gI .i64 (l61[4]?) true fun i61x4 =>
  gI .i64 (l61[5]?) true fun i61x5 =>
  gL (l61[6]?) true fun s61x6 n61x6 =>
  letK (IntKind.wrap .i64 (i5 + (n61x0 : Int))) fun i66 =>
  letK (decide ((4096 : Int) < i66)) fun b68 =>
  if b68 = true then
   (
   Q .ret (S26xr 2 h)
   )
  else
   (
   L26x52 M C i1x0 s1x1 n1x1 i1x2 s1x3 n1x3 i66 s61x0 n61x0 i61x1 i61x2 i61x3 i61x4 i61x5 s61x6 n61x6 s56 n56 i57 i58 s61x0 n61x0 (n61x0 : Int) 0 h (Q26x52 M C Q)
   )
  )
 else
  (
  Q (.exit 2) (S26xe2 i1x0 s1x1 n1x1 i1x2 s1x3 n1x3 h)
  )
 ) := by kernel_rfl
theorem L26x35xeq : TEq (L26x35 mk0 C i1x0 s1x1 n1x1 i1x2 s1x3 n1x3 i5 s56 n56 i57 i58 h Q) (L26x35xaux mk0 C i1x0 s1x1 n1x1 i1x2 s1x3 n1x3 i5 s56 n56 i57 i58 h Q) := loop_te (by kernel_rfl)
theorem L26x52xaux : rnd M C k26x52 8264645748180144619682 504403158265495714 ⟨.any::.box [(.int .i64 i1x0), (.sl s1x1 n1x1), (.int .i64 i1x2), (.sl s1x3 n1x3)]::rep 3 (vi i5::.any::.box [(.sl s7x0 n7x0), (.int .i64 i7x1), (.int .i64 i7x2), (.int .i64 i7x3), (.int .i64 i7x4), (.int .i64 i7x5), (.sl s7x6 n7x6)]::rep 48 (vl s56 n56::vi i57::vi i58::rep 11 (vl s70 n70::vi i71::vi i72::rep 44 []))), h⟩ Q = (
 letK (decide (i72 < i71)) fun b73 =>
 if b73 = true then
  (
  chk (true = true → 0 ≤ i72 ∧ i72 < (n70 : Int)) <|
  atP (adP s70) true fun a74 =>
  gCells (ldN h (Ad.add a74 (Int.toNat i72 * 6)) 6) true fun l75 =>
  gI .i64 (l75[0]?) true fun i75x0 =>
  gI .i64 (l75[1]?) true fun i75x1 =>
  gI .i64 (l75[2]?) true fun i75x2 =>
  gI .i64 (l75[3]?) true fun i75x3 =>
  gI .i64 (l75[4]?) true fun i75x4 =>
  gL (l75[5]?) true fun s75x5 n75x5 =>
  (C 59 [(.agg [(.int .i64 i75x0), (.int .i64 i75x1), (.int .i64 i75x2), (.int .i64 i75x3), (.int .i64 i75x4), (.sl s75x5 n75x5)]), (.int .i64 i1x2)] h).bind fun r79 =>
  gI .i64 (some r79.1) true fun i79 =>
  letK (!decide (i79 = 0)) fun b81 =>
  if b81 = true then
   (
   Q .ret (S26xr i79 r79.2)
   )
  else
   (
   letK (IntKind.wrap .i64 (i72 + 1)) fun i83 =>
   L26x52 M C i1x0 s1x1 n1x1 i1x2 s1x3 n1x3 i5 s7x0 n7x0 i7x1 i7x2 i7x3 i7x4 i7x5 s7x6 n7x6 s56 n56 i57 i58 s70 n70 i71 i83 r79.2 Q
   )
  )
 else
  (
  Q (.exit 4) (S26xe4 i1x0 s1x1 n1x1 i1x2 s1x3 n1x3 i5 s7x0 n7x0 i7x1 i7x2 i7x3 i7x4 i7x5 s7x6 n7x6 s56 n56 i57 i58 h)
  )
 ) := by kernel_rfl
theorem L26x52xeq : TEq (L26x52 mk0 C i1x0 s1x1 n1x1 i1x2 s1x3 n1x3 i5 s7x0 n7x0 i7x1 i7x2 i7x3 i7x4 i7x5 s7x6 n7x6 s56 n56 i57 i58 s70 n70 i71 i72 h Q) (L26x52xaux mk0 C i1x0 s1x1 n1x1 i1x2 s1x3 n1x3 i5 s7x0 n7x0 i7x1 i7x2 i7x3 i7x4 i7x5 s7x6 n7x6 s56 n56 i57 i58 s70 n70 i71 i72 h Q) := loop_te (by kernel_rfl)
theorem X26x35xr : Q26x35 M C .ret (S26xr i2 h) = (
 some ((.int .i64 i2), h)
 ) := by kernel_rfl
theorem X26x35xe2 : Q26x35 M C (.exit 2) (S26xe2 i1x0 s1x1 n1x1 i1x2 s1x3 n1x3 h) = (
 (C 61 [(.agg [(.int .i64 i1x0), (.sl s1x1 n1x1), (.int .i64 i1x2), (.sl s1x3 n1x3)])] h).bind fun r97 =>
 gL (some r97.1) true fun s97 n97 =>
 L26x74 M C i1x0 s1x1 n1x1 i1x2 s1x3 n1x3 s97 n97 1 r97.2 (Q26x74 M C)
 ) := by kernel_rfl
theorem L26x74xaux : rnd M C k26x74 12290 0 ⟨.any::.box [(.int .i64 i1x0), (.sl s1x1 n1x1), (.int .i64 i1x2), (.sl s1x3 n1x3)]::rep 10 (vl s12 n12::vi i13::rep 103 []), h⟩ Q = (
 letK (decide (i13 < i1x2)) fun b101 =>
 if b101 = true then
  (
  chk (true = true → (0 : Int) ≤ 0 ∧ (0 : Int) < (n12 : Int)) <|
  atP (adP s12) true fun a105 =>
  gL (ld1 h (Ad.add a105 (Int.toNat 0 * 1))) true fun s106 n106 =>
  chk (true = true → 0 ≤ i13 ∧ i13 < (n106 : Int)) <|
  atP (adP s106) true fun a108 =>
  gB (ld1 h (Ad.add a108 (Int.toNat i13 * 1))) true fun b109 =>
  gL (some (.sl s1x1 n1x1)) b109 fun s112 n112 =>
  (callO b109 (C 20 [(.sl s112 n112), (.int .i64 i13)] h) (.bool false) h).bind fun r114 =>
  gB (some r114.1) b109 fun b114 =>
  letK (if b109 = true then (!b114) else false) fun b116 =>
  if b116 = true then
   (
   Q .ret (S26xr 12 r114.2)
   )
  else
   (
   letK (IntKind.wrap .i64 (i13 + 1)) fun i103 =>
   L26x74 M C i1x0 s1x1 n1x1 i1x2 s1x3 n1x3 s12 n12 i103 r114.2 Q
   )
  )
 else
  (
  Q (.exit 6) (S26xe6 h)
  )
 ) := by kernel_rfl
theorem L26x74xeq : TEq (L26x74 mk0 C i1x0 s1x1 n1x1 i1x2 s1x3 n1x3 s12 n12 i13 h Q) (L26x74xaux mk0 C i1x0 s1x1 n1x1 i1x2 s1x3 n1x3 s12 n12 i13 h Q) := loop_te (by kernel_rfl)
theorem X26x52xr : Q26x52 M C Q .ret (S26xr i2 h) = (
 Q .ret (S26xr i2 h)
 ) := by kernel_rfl
theorem X26x52xe4 : Q26x52 M C Q (.exit 4) (S26xe4 i1x0 s1x1 n1x1 i1x2 s1x3 n1x3 i5 s7x0 n7x0 i7x1 i7x2 i7x3 i7x4 i7x5 s7x6 n7x6 s56 n56 i57 i58 h) = (
 (C 60 [(.agg [(.int .i64 i7x1), (.int .i64 i7x2), (.int .i64 i7x3), (.int .i64 i7x4), (.int .i64 i7x5), (.sl s7x6 n7x6)]), (.int .i64 i1x2), (.int .i64 (n1x3 : Int))] h).bind fun r91 =>
 gI .i64 (some r91.1) true fun i91 =>
 letK (!decide (i91 = 0)) fun b93 =>
 if b93 = true then
  (
  Q .ret (S26xr i91 r91.2)
  )
 else
  (
  letK (IntKind.wrap .i64 (i58 + 1)) fun i95 =>
  L26x35 M C i1x0 s1x1 n1x1 i1x2 s1x3 n1x3 i5 s56 n56 i57 i95 r91.2 Q
  )
 ) := by kernel_rfl
theorem X26x74xr : Q26x74 M C .ret (S26xr i2 h) = (
 some ((.int .i64 i2), h)
 ) := by kernel_rfl
theorem X26x74xe6 : Q26x74 M C (.exit 6) (S26xe6 h) = (
 some ((.int .i64 0), h)
 ) := by kernel_rfl
end
noncomputable section
def k10x9:=AC.exit 0
def k10x8:=AC.mask 906
def k10x12:=of [
 mv 13 3,
 fa 14 0 5,
 ls 15 14,
 ln 16 15,
 bt 17 .add 13 16,
 mv 3 17]
def k10x11:=AC.mask 906
def k10x10:=of [
 bc 18 .add 9 1,
 mv 9 18]
def k10x7:=sq (.seq (.block 1 (.seq (of [
 ia 11 7 7 9,
 o 12 (.load (.agg [.sl, (.int .i64), (.int .i64), (.int .i64), (.int .i64), (.int .i64), .sl]) (t 11)),
 o 5 (.allocL [(.sl .nil 0), (.int .i64 0), (.int .i64 0), (.int .i64 0), (.int .i64 0), (.int .i64 0), (.sl .nil 0)]),
 u (.store 7 (t 5) (t 12))]) k10x12)) k10x11) k10x10
def k10x6:=sq (.seq (.cond (.tmp 10)
 (.skip)
 (.seq (.mask 10) k10x9)) k10x8) k10x7
def k10x5:=sq (of [
 bt 10 .lss 9 8]) k10x6
def k10x4:=AC.mask 10
def k10x3:=sq (.block 0 (.loop 906 10 k10x5)) k10x4
def k10x14:=AC.ret
def k10x13:=sq (.mask 4) k10x14
def k10x2:=sq (ot [
 fa 19 2 1,
 li 20 19,
 bc 21 .leq 20 60,
 mv 22 21,
 g 23 22 (.fieldAddr 3 (t 1)),
 g 24 22 (.load (.cell .sl) (t 23)),
 g 25 22 (.lenSl (t 24)),
 g 26 22 (.bin .other .leq (t 25) (c 20)),
 o 27 (.pick (t 22) (t 26) (.c (.bool false))),
 mv 28 27,
 g 29 28 (.move (t 3)),
 g 30 28 (.bin .other .leq (t 29) (c 100)),
 o 31 (.pick (t 28) (t 30) (.c (.bool false))),
 mv 32 31,
 g 33 32 (.load (.agg [(.int .i64), .sl, (.int .i64), .sl]) (t 1)),
 g 34 32 (.call 26 [(t 33)] [I] (.int .i64 0)),
 g 35 32 (.bin .other .eql (t 34) (c 0)),
 o 36 (.pick (t 32) (t 35) (.c (.bool false))),
 mv 2 36]) k10x13
def k10x1:=sq (.seq (of [
 fa 6 3 1,
 ls 7 6,
 ln 8 7,
 o 9 (.move (c 0))]) k10x3) k10x2
def k10x0:=sq (of [
 o 3 (.move (c 0))]) k10x1
end
noncomputable section
variable (i0x0 : Int) (s0x1 : SA) (n0x1 : Nat) (i0x2 : Int) (s0x3 : SA) (n0x3 : Nat) (i1x0 : Int) (s1x1 : SA) (n1x1 : Nat) (i1x2 : Int) (s1x3 : SA) (n1x3 : Nat) (i3 : Int) (s7 : SA) (n7 : Nat) (i8 i9 : Int) (h : Heap) (Q : Kont R)
def c10 : AFn := ⟨37, [.tmp 2],
 .seq (of [
 o 1 (.boxL (t 0)),
 o 2 (.move (.c (.bool false)))]) k10x0⟩
def S10xe0 : St := ⟨.any::.box [(.int .i64 i1x0), (.sl s1x1 n1x1), (.int .i64 i1x2), (.sl s1x3 n1x3)]::.any::vi i3::rep 33 [], h⟩
def Q10x5 (M : Mk) (C : Cal) : Kont (AV × Heap) := (blockQ 0 (seqQ (evalE M C k10x4) (seqQ (evalE M C k10x2) (endQ [.tmp 2]))))
def L10x5 : Option R := loopE (evalE M C k10x5) 906 10 ⟨.any::.box [(.int .i64 i1x0), (.sl s1x1 n1x1), (.int .i64 i1x2), (.sl s1x3 n1x3)]::.any::vi i3::rep 3 (vl s7 n7::vi i8::vi i9::rep 27 []), h⟩ Q
theorem r10 : runE M C c10 [(.agg [(.int .i64 i0x0), (.sl s0x1 n0x1), (.int .i64 i0x2), (.sl s0x3 n0x3)])] h = (
 L10x5 M C i0x0 s0x1 n0x1 i0x2 s0x3 n0x3 0 s0x3 n0x3 (n0x3 : Int) 0 h (Q10x5 M C)
 ) := by kernel_rfl
theorem cf10 : cFn Try.prog 10 = some c10 := by kernel_rfl
theorem e10 : TEq (E 10 [(.agg [(.int .i64 i0x0), (.sl s0x1 n0x1), (.int .i64 i0x2), (.sl s0x3 n0x3)])] h) (r10 mk0 E i0x0 s0x1 n0x1 i0x2 s0x3 n0x3 h) := (EV_eq (P := Try.prog) (T := T0) rfl cf10 _ h).trans (r10 mk0 E i0x0 s0x1 n0x1 i0x2 s0x3 n0x3 h)
theorem L10x5xaux : rnd M C k10x5 906 10 ⟨.any::.box [(.int .i64 i1x0), (.sl s1x1 n1x1), (.int .i64 i1x2), (.sl s1x3 n1x3)]::.any::vi i3::rep 3 (vl s7 n7::vi i8::vi i9::rep 27 []), h⟩ Q = (
 letK (decide (i9 < i8)) fun b10 =>
 if b10 = true then
  (
  chk (true = true → 0 ≤ i9 ∧ i9 < (n7 : Int)) <|
  atP (adP s7) true fun a11 =>
  gCells (ldN h (Ad.add a11 (Int.toNat i9 * 7)) 7) true fun l12 =>
  gL (l12[0]?) true fun s12x0 n12x0 =>
  gI .i64 (l12[1]?) true fun i12x1 =>
  gI .i64 (l12[2]?) true fun i12x2 =>
  gI .i64 (l12[3]?) true fun i12x3 =>
  gI .i64 (l12[4]?) true fun i12x4 =>
  gI .i64 (l12[5]?) true fun i12x5 =>
  gL (l12[6]?) true fun s12x6 n12x6 =>
  letK (IntKind.wrap .i64 (i3 + (n12x0 : Int))) fun i17 =>
  letK (IntKind.wrap .i64 (i9 + 1)) fun i18 =>
  L10x5 M C i1x0 s1x1 n1x1 i1x2 s1x3 n1x3 i17 s7 n7 i8 i18 h Q
  )
 else
  (
  Q (.exit 0) (S10xe0 i1x0 s1x1 n1x1 i1x2 s1x3 n1x3 i3 h)
  )
 ) := by kernel_rfl
theorem L10x5xeq : TEq (L10x5 mk0 C i1x0 s1x1 n1x1 i1x2 s1x3 n1x3 i3 s7 n7 i8 i9 h Q) (L10x5xaux mk0 C i1x0 s1x1 n1x1 i1x2 s1x3 n1x3 i3 s7 n7 i8 i9 h Q) := loop_te (by kernel_rfl)
theorem X10x5xe0 : Q10x5 M C (.exit 0) (S10xe0 i1x0 s1x1 n1x1 i1x2 s1x3 n1x3 i3 h) = (
 letK (decide (i1x2 ≤ 60)) fun b21 =>
 gL (some (.sl s1x3 n1x3)) b21 fun s24 n24 =>
 letK (decide (((n24 : Int) : Int) ≤ 20)) fun b26 =>
 letK (if b21 = true then b26 else false) fun b27 =>
 letK (decide (i3 ≤ 100)) fun b30 =>
 letK (if b27 = true then b30 else false) fun b31 =>
 chk (b31 = true → 0 + 4 ≤ 4) <|
 gI .i64 (some (.int .i64 i1x0)) b31 fun i33x0 =>
 gL (some (.sl s1x1 n1x1)) b31 fun s33x1 n33x1 =>
 gI .i64 (some (.int .i64 i1x2)) b31 fun i33x2 =>
 gL (some (.sl s1x3 n1x3)) b31 fun s33x3 n33x3 =>
 (callO b31 (C 26 [(.agg [(.int .i64 i33x0), (.sl s33x1 n33x1), (.int .i64 i33x2), (.sl s33x3 n33x3)])] h) (.int .i64 0) h).bind fun r34 =>
 gI .i64 (some r34.1) b31 fun i34 =>
 letK (decide (i34 = 0)) fun b35 =>
 letK (if b31 = true then b35 else false) fun b36 =>
 some ((.bool b36), r34.2)
 ) := by kernel_rfl
end
end
end Go.Proofs.Ytnmdadadjneaiaa.D
