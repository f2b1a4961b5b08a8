/- Parts of the proof, printed. -/
import Derived.Test.YtnmdadadjneaiaaLibD
import Derived.Test.YtnmdadadjneaiaaDGen2
import Derived.KernelRfl
set_option linter.unusedVariables false
set_option maxRecDepth 100000
namespace Go.Proofs.Ytnmdadadjneaiaa.D
open Go Go.Proofs.Ytnmdadadjneaiaa.Abs Abs.Sh Go.Proofs
section
variable {R : Type} (M : Mk) (C : Cal)
noncomputable section
variable (i0x0 : Int) (s0x1 : SA) (n0x1 : Nat) (i0x2 : Int) (s0x3 : SA) (n0x3 : Nat) (i1x0 : Int) (s1x1 : SA) (n1x1 : Nat) (i1x2 : Int) (s1x3 : SA) (n1x3 : Nat) (s2 : SA) (n2 : Nat) (s3 : SA) (n3 : Nat) (i16 i17 : Int) (h : Heap) (Q : Kont R)
def S28xe0 : St := ⟨(.any :: .any :: (vl s2 n2::vl s3 n3::rep 26 [])), h⟩
def Q28x11 (M : Mk) (C : Cal) : Kont (AV × Heap) := (blockQ 0 (seqQ (evalE M C k28x10) (seqQ (evalE M C k28x8) (endQ [.tmp 2, .tmp 3, .tmp 4]))))
def L28x11 : Option R := loopE (evalE M C k28x11) 196622 12 ⟨.any::.box [(.int .i64 i1x0), (.sl s1x1 n1x1), (.int .i64 i1x2), (.sl s1x3 n1x3)]::vl s2 n2::vl s3 n3::rep 12 (vi i16::vi i17::rep 12 []), h⟩ Q
theorem r28 : runE M C c28 [(.agg [(.int .i64 i0x0), (.sl s0x1 n0x1), (.int .i64 i0x2), (.sl s0x3 n0x3)])] h = (
 (C 26 [(.agg [(.int .i64 i0x0), (.sl s0x1 n0x1), (.int .i64 i0x2), (.sl s0x3 n0x3)])] h).bind fun r8 =>
 gI .i64 (some r8.1) true fun i8 =>
 letK (!decide (i8 = 0)) fun b10 =>
 if b10 = true then
  (
  some (.tup [(.sl .nil 0), (.sl .nil 0), (.int .i64 i8)], r8.2)
  )
 else
  (
  (C 61 [(.agg [(.int .i64 i0x0), (.sl s0x1 n0x1), (.int .i64 i0x2), (.sl s0x3 n0x3)])] r8.2).bind fun r13 =>
  gL (some r13.1) true fun s13 n13 =>
  L28x11 M C i0x0 s0x1 n0x1 i0x2 s0x3 n0x3 s13 n13 .nil 0 (n0x3 : Int) 0 r13.2 (Q28x11 M C)
  )
 ) := by kernel_rfl
theorem e28 : TEq (E 28 [(.agg [(.int .i64 i0x0), (.sl s0x1 n0x1), (.int .i64 i0x2), (.sl s0x3 n0x3)])] h) (r28 mk0 E i0x0 s0x1 n0x1 i0x2 s0x3 n0x3 h) := (EV_eq (P := Try.prog) (T := T0) rfl cf28 _ h).trans (r28 mk0 E i0x0 s0x1 n0x1 i0x2 s0x3 n0x3 h)
theorem L28x11xaux : rnd M C k28x11 196622 12 ⟨.any::.box [(.int .i64 i1x0), (.sl s1x1 n1x1), (.int .i64 i1x2), (.sl s1x3 n1x3)]::vl s2 n2::vl s3 n3::rep 12 (vi i16::vi i17::rep 12 []), h⟩ Q = (
 letK (decide (i17 < i16)) fun b18 =>
 if b18 = true then
  (
  (C 62 [(.agg [(.int .i64 i1x0), (.sl s1x1 n1x1), (.int .i64 i1x2), (.sl s1x3 n1x3)]), (.sl s2 n2), (.int .i64 i17)] h).bind fun r24 =>
  gL (some r24.1) true fun s24 n24 =>
  newK r24.2 (.cells [(.sl s24 n24)] (.grow 1) 0) fun h_2 =>
  (ldSl h_2 (.pos ⟨List.length r24.2, 0, 0⟩) (1 * 1)).bind fun y26 =>
  (apnd h_2 (.sl s3 n3) 1 24 y26 1).bind fun r26 =>
  gL (some r26.1) true fun s26 n26 =>
  letK (IntKind.wrap .i64 (i17 + 1)) fun i27 =>
  L28x11 M C i1x0 s1x1 n1x1 i1x2 s1x3 n1x3 s2 n2 s26 n26 i16 i27 r26.2 Q
  )
 else
  (
  Q (.exit 0) (S28xe0 s2 n2 s3 n3 h)
  )
 ) := by kernel_rfl
theorem L28x11xeq : TEq (L28x11 mk0 C i1x0 s1x1 n1x1 i1x2 s1x3 n1x3 s2 n2 s3 n3 i16 i17 h Q) (L28x11xaux mk0 C i1x0 s1x1 n1x1 i1x2 s1x3 n1x3 s2 n2 s3 n3 i16 i17 h Q) := loop_te (by kernel_rfl)
theorem X28x11xe0 : Q28x11 M C (.exit 0) (S28xe0 s2 n2 s3 n3 h) = (
 some (.tup [(.sl s2 n2), (.sl s3 n3), (.int .i64 0)], h)
 ) := by kernel_rfl
end
noncomputable section
variable (s0 : SA) (n0 : Nat) (p1 p2 : Option Ad) (s6 : SA) (n6 : Nat) (i7 i8 : Int) (h : Heap) (Q : Kont R)
def S77xe0 : St := ⟨(rep 22 []), h⟩
def Q77x2 (M : Mk) (C : Cal) : Kont (AV × Heap) := (blockQ 0 (seqQ (evalE M C k77x1) (endQ [])))
def L77x2 : Option R := loopE (evalE M C k77x2) 454 0 ⟨.any::vp p1::vp p2::rep 3 (vl s6 n6::vi i7::vi i8::rep 13 []), h⟩ Q
theorem r77 : runE M C c77 [(.sl s0 n0), (.ptr p1), (.ptr p2)] h = (
 L77x2 M C p1 p2 s0 n0 (n0 : Int) 0 h (Q77x2 M C)
 ) := by kernel_rfl
theorem e77 : TEq (E 77 [(.sl s0 n0), (.ptr p1), (.ptr p2)] h) (r77 mk0 E s0 n0 p1 p2 h) := (EV_eq (P := Try.prog) (T := T0) rfl cf77 _ h).trans (r77 mk0 E s0 n0 p1 p2 h)
theorem L77x2xaux : rnd M C k77x2 454 0 ⟨.any::vp p1::vp p2::rep 3 (vl s6 n6::vi i7::vi i8::rep 13 []), h⟩ Q = (
 letK (decide (i8 < i7)) fun b9 =>
 if b9 = true then
  (
  chk (true = true → 0 ≤ i8 ∧ i8 < (n6 : Int)) <|
  atP (adP s6) true fun a10 =>
  gI .i64 (ld1 h (Ad.add a10 (Int.toNat i8 * 1))) true fun i11 =>
  atP p1 true fun a12 =>
  gL (ld1 h a12) true fun s12 n12 =>
  atP p2 true fun a14 =>
  gP (ld1 h a14) true fun p14 =>
  atP p14 true fun a15 =>
  gL (ld1 h (Ad.add a15 2)) true fun s17 n17 =>
  chk (true = true → 0 ≤ i11 ∧ i11 < (n12 : Int)) <|
  atP (adP s12) true fun a19 =>
  (st1 h (Ad.add a19 (Int.toNat i11 * 1)) (.bool true)).bind fun h_2 =>
  chk (true = true → 0 ≤ i11 ∧ i11 < (n17 : Int)) <|
  atP (adP s17) true fun a20 =>
  (st1 h_2 (Ad.add a20 (Int.toNat i11 * 1)) (.bool true)).bind fun h_3 =>
  letK (IntKind.wrap .i64 (i8 + 1)) fun i21 =>
  L77x2 M C p1 p2 s6 n6 i7 i21 h_3 Q
  )
 else
  (
  Q (.exit 0) (S77xe0 h)
  )
 ) := by kernel_rfl
theorem L77x2xeq : TEq (L77x2 mk0 C p1 p2 s6 n6 i7 i8 h Q) (L77x2xaux mk0 C p1 p2 s6 n6 i7 i8 h Q) := loop_te (by kernel_rfl)
theorem X77x2xe0 : Q77x2 M C (.exit 0) (S77xe0 h) = (
 some (.tup [], h)
 ) := by kernel_rfl
end
noncomputable section
variable (p0 : Option Ad) (i1 i2 : Int) (s3 : SA) (n3 : Nat) (s10 : SA) (n10 : Nat) (i11 i12 : Int) (h : Heap) (Q : Kont R)
def S78xe0 : St := ⟨(rep 28 []), h⟩
def Q78x2 (M : Mk) (C : Cal) : Kont (AV × Heap) := (blockQ 0 (seqQ (evalE M C k78x1) (endQ [])))
def L78x2 : Option R := loopE (evalE M C k78x2) 7175 0 ⟨vp p0::vi i1::vi i2::rep 7 (vl s10 n10::vi i11::vi i12::rep 15 []), h⟩ Q
def J78x12 : Option R := M R (blockQ 1 (seqQ (evalE M C k78x8) (seqQ (evalE M C k78x7) (roundQ M C k78x2 7175 0 Q)))) (vp p0::vi i1::vi i2::rep 7 (vl s10 n10::vi i11::vi i12::rep 15 [])) h
theorem r78 : runE M C c78 [(.ptr p0), (.int .i64 i1), (.int .i64 i2), (.sl s3 n3)] h = (
 L78x2 M C p0 i1 i2 s3 n3 (n3 : Int) 0 h (Q78x2 M C)
 ) := by kernel_rfl
theorem e78 : TEq (E 78 [(.ptr p0), (.int .i64 i1), (.int .i64 i2), (.sl s3 n3)] h) (r78 mk0 E p0 i1 i2 s3 n3 h) := (EV_eq (P := Try.prog) (T := T0) rfl cf78 _ h).trans (r78 mk0 E p0 i1 i2 s3 n3 h)
theorem L78x2xaux : rnd M C k78x2 7175 0 ⟨vp p0::vi i1::vi i2::rep 7 (vl s10 n10::vi i11::vi i12::rep 15 []), h⟩ Q = (
 letK (decide (i12 < i11)) fun b13 =>
 if b13 = true then
  (
  chk (true = true → 0 ≤ i12 ∧ i12 < (n10 : Int)) <|
  atP (adP s10) true fun a15 =>
  gB (ld1 h (Ad.add a15 (Int.toNat i12 * 1))) true fun b16 =>
  letK (!decide (i12 = i2)) fun b21 =>
  letK (if b16 = true then b21 else false) fun b22 =>
  if b22 = true then
   (
   (C 79 [(.ptr p0), (.int .i64 i1), (.int .i64 i12)] h).bind fun r26 =>
   gT 0 r26.1 true fun u26 =>
   J78x12 M C p0 i1 i2 s10 n10 i11 i12 r26.2 Q
   )
  else
   (
   J78x12 M C p0 i1 i2 s10 n10 i11 i12 h Q
   )
  )
 else
  (
  Q (.exit 0) (S78xe0 h)
  )
 ) := by kernel_rfl
theorem L78x2xeq : TEq (L78x2 mk0 C p0 i1 i2 s10 n10 i11 i12 h Q) (L78x2xaux mk0 C p0 i1 i2 s10 n10 i11 i12 h Q) := loop_te (by kernel_rfl)
theorem J78x12xaux : (forceK tk (vp p0::vi i1::vi i2::rep 7 (vl s10 n10::vi i11::vi i12::rep 15 [])) fun e => (blockQ 1 (seqQ (evalE M C k78x8) (seqQ (evalE M C k78x7) (roundQ M C k78x2 7175 0 Q)))) .normal ⟨e, h⟩) = (
 letK (IntKind.wrap .i64 (i12 + 1)) fun i27 =>
 L78x2 M C p0 i1 i2 s10 n10 i11 i27 h Q
 ) := by kernel_rfl
theorem J78x12xeq : TEq (J78x12 mk0 C p0 i1 i2 s10 n10 i11 i12 h Q) (J78x12xaux mk0 C p0 i1 i2 s10 n10 i11 i12 h Q) := join_te
theorem X78x2xe0 : Q78x2 M C (.exit 0) (S78xe0 h) = (
 some (.tup [], h)
 ) := by kernel_rfl
end
noncomputable section
variable (p0 : Option Ad) (i1 i2 : Int) (h : Heap)
def J79x2 (M : Mk) (C : Cal) (h : Heap) : Res := M (AV × Heap) (endQ []) (rep 35 []) h
theorem r79 : runE M C c79 [(.ptr p0), (.int .i64 i1), (.int .i64 i2)] h = (
 letK (!decide (i1 = i2)) fun b8 =>
 letK (!decide (i1 = 0)) fun b11 =>
 letK (if b8 = true then b11 else false) fun b12 =>
 letK (!decide (i2 = 0)) fun b15 =>
 letK (if b12 = true then b15 else false) fun b16 =>
 if b16 = true then
  (
  atP p0 true fun a18 =>
  gL (ld1 h (Ad.add a18 0)) true fun s20 n20 =>
  chk (true = true → 0 ≤ i1 ∧ i1 < (n20 : Int)) <|
  atP (adP s20) true fun a22 =>
  gL (ld1 h (Ad.add a22 (Int.toNat i1 * 1))) true fun s23 n23 =>
  atP p0 true fun a26 =>
  gL (ld1 h (Ad.add a26 0)) true fun s28 n28 =>
  chk (true = true → 0 ≤ i2 ∧ i2 < (n28 : Int)) <|
  atP (adP s28) true fun a30 =>
  gL (ld1 h (Ad.add a30 (Int.toNat i2 * 1))) true fun s31 n31 =>
  chk (true = true → 0 ≤ i2 ∧ i2 < (n23 : Int)) <|
  atP (adP s23) true fun a33 =>
  (st1 h (Ad.add a33 (Int.toNat i2 * 1)) (.bool true)).bind fun h_2 =>
  chk (true = true → 0 ≤ i1 ∧ i1 < (n31 : Int)) <|
  atP (adP s31) true fun a34 =>
  (st1 h_2 (Ad.add a34 (Int.toNat i1 * 1)) (.bool true)).bind fun h_3 =>
  J79x2 M C h_3
  )
 else
  (
  J79x2 M C h
  )
 ) := by kernel_rfl
theorem e79 : TEq (E 79 [(.ptr p0), (.int .i64 i1), (.int .i64 i2)] h) (r79 mk0 E p0 i1 i2 h) := (EV_eq (P := Try.prog) (T := T0) rfl cf79 _ h).trans (r79 mk0 E p0 i1 i2 h)
theorem J79x2xaux (M : Mk) (C : Cal) (h : Heap) : (forceK tk (rep 35 []) fun e => (endQ []) .normal ⟨e, h⟩) = (
 some (.tup [], h)
 ) := by kernel_rfl
theorem J79x2xeq : TEq (J79x2 mk0 C h) (J79x2xaux mk0 C h) := join_te
end
noncomputable section
variable (i0x0 : Int) (s0x1 : SA) (n0x1 : Nat) (i0x2 : Int) (s0x3 : SA) (n0x3 : Nat) (i1x0 : Int) (s1x1 : SA) (n1x1 : Nat) (i1x2 : Int) (s1x3 : SA) (n1x3 : Nat) (p3 : Option Ad) (s4 : SA) (n4 : Nat) (s5 : SA) (n5 : Nat) (s8x0 : SA) (n8x0 : Nat) (i8x1 i8x2 i8x3 i8x4 i8x5 : Int) (s8x6 : SA) (n8x6 : Nat) (p9 p10c0 p10c1 : Option Ad) (i11 i12x0 i12x1 i12x2 i12x3 i12x4 : Int) (s12x5 : SA) (n12x5 : Nat) (i13 i14 i18 i30 i31 : Int) (s53 : SA) (n53 : Nat) (i54 i55 : Int) (s133 : SA) (n133 : Nat) (i134 i135 : Int) (s163 : SA) (n163 : Nat) (i164 i165 : Int) (s179 : SA) (n179 : Nat) (i180 i181 : Int) (h : Heap) (Q : Kont R)
def S40xe0 : St := ⟨.any::.box [(.int .i64 i1x0), (.sl s1x1 n1x1), (.int .i64 i1x2), (.sl s1x3 n1x3)]::.any::vp p3::rep 199 [], h⟩
def S40xe2 : St := ⟨.any::.box [(.int .i64 i1x0), (.sl s1x1 n1x1), (.int .i64 i1x2), (.sl s1x3 n1x3)]::.any::vp p3::vl s4 n4::rep 198 [], h⟩
def S40xe4 : St := ⟨.any::.box [(.int .i64 i1x0), (.sl s1x1 n1x1), (.int .i64 i1x2), (.sl s1x3 n1x3)]::.any::vp p3::vl s4 n4::vl s5 n5::rep 47 (vl s53 n53::vi i54::vi i55::rep 147 []), h⟩
def S40xe6 : St := ⟨(.any :: (.box [(.int .i64 i1x0), (.sl s1x1 n1x1), (.int .i64 i1x2), (.sl s1x3 n1x3)] :: (.any :: (vp p3 :: (vl s4 n4 :: (vl s5 n5 :: (.any :: .any :: (.box [(.sl s8x0 n8x0), (.int .i64 i8x1), (.int .i64 i8x2), (.int .i64 i8x3), (.int .i64 i8x4), (.int .i64 i8x5), (.sl s8x6 n8x6)]::vp p9::.g [] true (.fn 77 [] [(.ptr p10c0), (.ptr p10c1)])::vi i11::.box [(.int .i64 i12x0), (.int .i64 i12x1), (.int .i64 i12x2), (.int .i64 i12x3), (.int .i64 i12x4), (.sl s12x5 n12x5)]::rep 40 (vl s53 n53::vi i54::vi i55::rep 147 []))))))))), h⟩
def S40xe8 : St := ⟨rep 3 (vp p3::rep 199 []), h⟩
def S40xe10 : St := ⟨.any::.box [(.int .i64 i1x0), (.sl s1x1 n1x1), (.int .i64 i1x2), (.sl s1x3 n1x3)]::.any::vp p3::vl s4 n4::rep 13 (vi i18::rep 144 (vl s163 n163::vi i164::vi i165::rep 37 [])), h⟩
def Q40x5 (M : Mk) (C : Cal) : Kont (AV × Heap) := (blockQ 0 (seqQ (evalE M C k40x4) (seqQ (evalE M C k40x2) (endQ [.tmp 2]))))
def L40x5 : Option R := loopE (evalE M C k40x5) 3221225482 10 ⟨.any::.box [(.int .i64 i1x0), (.sl s1x1 n1x1), (.int .i64 i1x2), (.sl s1x3 n1x3)]::.any::vp p3::rep 26 (vi i30::vi i31::rep 171 []), h⟩ Q
def Q40x16 (M : Mk) (C : Cal) : Kont (AV × Heap) := (blockQ 2 (seqQ (evalE M C k40x15) (seqQ (evalE M C k40x13) (endQ [.tmp 2]))))
def L40x16 : Option R := loopE (evalE M C k40x16) 63050394783187002 26 ⟨.any::.box [(.int .i64 i1x0), (.sl s1x1 n1x1), (.int .i64 i1x2), (.sl s1x3 n1x3)]::.any::vp p3::vl s4 n4::vl s5 n5::rep 47 (vl s53 n53::vi i54::vi i55::rep 147 []), h⟩ Q
def Q40x29 : Kont R := (blockQ 4 (seqQ (evalE M C k40x28) (blockQ 3 (seqQ (evalE M C k40x22) (seqQ (evalE M C k40x21) (roundQ M C k40x16 63050394783187002 26 Q))))))
def L40x29 : Option R := loopE (evalE M C k40x29) 63050394783190842 63050394783187002 ⟨(.any :: (.box [(.int .i64 i1x0), (.sl s1x1 n1x1), (.int .i64 i1x2), (.sl s1x3 n1x3)] :: (.any :: (vp p3 :: (vl s4 n4 :: (vl s5 n5 :: (.any :: .any :: (.box [(.sl s8x0 n8x0), (.int .i64 i8x1), (.int .i64 i8x2), (.int .i64 i8x3), (.int .i64 i8x4), (.int .i64 i8x5), (.sl s8x6 n8x6)]::vp p9::.g [] true (.fn 77 [] [(.ptr p10c0), (.ptr p10c1)])::vi i11::rep 41 (vl s53 n53::vi i54::vi i55::rep 147 []))))))))), h⟩ Q
def J40x44 : Option R := M R (seqQ (evalE M C k40x40) (seqQ (evalE M C k40x38) (blockQ 5 (seqQ (evalE M C k40x35) (seqQ (evalE M C k40x34) (roundQ M C k40x29 63050394783190842 63050394783187002 Q)))))) (.any :: (.box [(.int .i64 i1x0), (.sl s1x1 n1x1), (.int .i64 i1x2), (.sl s1x3 n1x3)] :: (.any :: (vp p3 :: (vl s4 n4 :: (vl s5 n5 :: (.any :: .any :: (.box [(.sl s8x0 n8x0), (.int .i64 i8x1), (.int .i64 i8x2), (.int .i64 i8x3), (.int .i64 i8x4), (.int .i64 i8x5), (.sl s8x6 n8x6)]::vp p9::.g [] true (.fn 77 [] [(.ptr p10c0), (.ptr p10c1)])::vi i11::.box [(.int .i64 i12x0), (.int .i64 i12x1), (.int .i64 i12x2), (.int .i64 i12x3), (.int .i64 i12x4), (.sl s12x5 n12x5)]::vi i13::vi i14::rep 38 (vl s53 n53::vi i54::vi i55::rep 147 []))))))))) h
def J40x45 : Option R := M R (seqQ (evalE M C k40x38) (blockQ 5 (seqQ (evalE M C k40x35) (seqQ (evalE M C k40x34) (roundQ M C k40x29 63050394783190842 63050394783187002 Q))))) (.any :: (.box [(.int .i64 i1x0), (.sl s1x1 n1x1), (.int .i64 i1x2), (.sl s1x3 n1x3)] :: (.any :: (vp p3 :: (vl s4 n4 :: (vl s5 n5 :: (.any :: .any :: (.box [(.sl s8x0 n8x0), (.int .i64 i8x1), (.int .i64 i8x2), (.int .i64 i8x3), (.int .i64 i8x4), (.int .i64 i8x5), (.sl s8x6 n8x6)]::vp p9::.g [] true (.fn 77 [] [(.ptr p10c0), (.ptr p10c1)])::vi i11::.box [(.int .i64 i12x0), (.int .i64 i12x1), (.int .i64 i12x2), (.int .i64 i12x3), (.int .i64 i12x4), (.sl s12x5 n12x5)]::vi i13::vi i14::rep 38 (vl s53 n53::vi i54::vi i55::rep 147 []))))))))) h
def Q40x53 : Kont R := (blockQ 6 (seqQ (evalE M C k40x52) (seqQ (evalE M C k40x50) (seqQ (evalE M C k40x48) (blockQ 5 (seqQ (evalE M C k40x35) (seqQ (evalE M C k40x34) (roundQ M C k40x29 63050394783190842 63050394783187002 Q))))))))
def L40x53 : Option R := loopE (evalE M C k40x53) 76223250190290215815795975115110862561082 63050394783194938 ⟨(.any :: (.box [(.int .i64 i1x0), (.sl s1x1 n1x1), (.int .i64 i1x2), (.sl s1x3 n1x3)] :: (.any :: (vp p3 :: (vl s4 n4 :: (vl s5 n5 :: (.any :: .any :: (.box [(.sl s8x0 n8x0), (.int .i64 i8x1), (.int .i64 i8x2), (.int .i64 i8x3), (.int .i64 i8x4), (.int .i64 i8x5), (.sl s8x6 n8x6)]::vp p9::.g [] true (.fn 77 [] [(.ptr p10c0), (.ptr p10c1)])::vi i11::.box [(.int .i64 i12x0), (.int .i64 i12x1), (.int .i64 i12x2), (.int .i64 i12x3), (.int .i64 i12x4), (.sl s12x5 n12x5)]::rep 40 (vl s53 n53::vi i54::vi i55::rep 77 (vl s133 n133::vi i134::vi i135::rep 67 [])))))))))), h⟩ Q
def J40x61 : Option R := M R (seqQ (evalE M C k40x48) (blockQ 5 (seqQ (evalE M C k40x35) (seqQ (evalE M C k40x34) (roundQ M C k40x29 63050394783190842 63050394783187002 Q))))) (.any :: (.box [(.int .i64 i1x0), (.sl s1x1 n1x1), (.int .i64 i1x2), (.sl s1x3 n1x3)] :: (.any :: (vp p3 :: (vl s4 n4 :: (vl s5 n5 :: (.any :: .any :: (.box [(.sl s8x0 n8x0), (.int .i64 i8x1), (.int .i64 i8x2), (.int .i64 i8x3), (.int .i64 i8x4), (.int .i64 i8x5), (.sl s8x6 n8x6)]::vp p9::.g [] true (.fn 77 [] [(.ptr p10c0), (.ptr p10c1)])::vi i11::.box [(.int .i64 i12x0), (.int .i64 i12x1), (.int .i64 i12x2), (.int .i64 i12x3), (.int .i64 i12x4), (.sl s12x5 n12x5)]::rep 40 (vl s53 n53::vi i54::vi i55::rep 147 []))))))))) h
def Q40x65 (M : Mk) (C : Cal) : Kont (AV × Heap) := (blockQ 8 (seqQ (evalE M C k40x64) (seqQ (evalE M C k40x62) (endQ [.tmp 2]))))
def L40x65 : Option R := loopE (evalE M C k40x65) 81844091690530563419406350632111849100732222406682 8 ⟨.any::.box [(.int .i64 i1x0), (.sl s1x1 n1x1), (.int .i64 i1x2), (.sl s1x3 n1x3)]::.any::vp p3::vl s4 n4::rep 158 (vl s163 n163::vi i164::vi i165::rep 37 []), h⟩ Q
def Q40x77 : Kont R := (blockQ 10 (seqQ (evalE M C k40x76) (seqQ (evalE M C k40x74) (blockQ 9 (seqQ (evalE M C k40x71) (seqQ (evalE M C k40x70) (roundQ M C k40x65 81844091690530563419406350632111849100732222406682 8 Q)))))))
def L40x77 : Option R := loopE (evalE M C k40x77) 5363816237122301534817634001376714254514687659865276442 81844091690530563419406350632111849100732222668826 ⟨.any::.box [(.int .i64 i1x0), (.sl s1x1 n1x1), (.int .i64 i1x2), (.sl s1x3 n1x3)]::.any::vp p3::vl s4 n4::rep 13 (vi i18::rep 144 (vl s163 n163::vi i164::vi i165::rep 13 (vl s179 n179::vi i180::vi i181::rep 21 []))), h⟩ Q
theorem r40 : runE M C c40 [(.agg [(.int .i64 i0x0), (.sl s0x1 n0x1), (.int .i64 i0x2), (.sl s0x3 n0x3)])] h = (
 chk (0 ≤ i0x2 ∧ i0x2 ≤ i0x2 ∧ i0x2 * ((1 : Nat) : Int) ≤ 70368744177664) <|
 newK h (.cells (repl (Int.toNat i0x2) [(.bool false)]) (.grow 1) 0) fun h_2 =>
 letK (Int.toNat i0x2) fun n23 =>
 chk (0 ≤ i0x2 ∧ i0x2 ≤ i0x2 ∧ i0x2 * ((1 : Nat) : Int) ≤ 70368744177664) <|
 newK h_2 (.cells (repl (Int.toNat i0x2) [(.bool false)]) (.grow 1) 0) fun h_3 =>
 letK (Int.toNat i0x2) fun n26 =>
 newK h_3 (.cells [(.sl .nil 0), (.sl (.pos ⟨List.length h, 0, 0⟩) n23), (.sl (.pos ⟨List.length h_2, 0, 0⟩) n26), (.sl .nil 0)] .fix 0) fun h_4 =>
 newK h_4 (.cells [(.ptr none)] .fix 0) fun h_5 =>
 (st1 h_5 ⟨List.length h_4, 0, 0⟩ (.ptr (some ⟨List.length h_3, 0, 0⟩))).bind fun h_6 =>
 L40x5 M C i0x0 s0x1 n0x1 i0x2 s0x3 n0x3 (some ⟨List.length h_4, 0, 0⟩) i0x2 0 h_6 (Q40x5 M C)
 ) := by kernel_rfl
theorem e40 : TEq (E 40 [(.agg [(.int .i64 i0x0), (.sl s0x1 n0x1), (.int .i64 i0x2), (.sl s0x3 n0x3)])] h) (r40 mk0 E i0x0 s0x1 n0x1 i0x2 s0x3 n0x3 h) := (EV_eq (P := Try.prog) (T := T0) rfl cf40 _ h).trans (r40 mk0 E i0x0 s0x1 n0x1 i0x2 s0x3 n0x3 h)
theorem L40x5xaux : rnd M C k40x5 3221225482 10 ⟨.any::.box [(.int .i64 i1x0), (.sl s1x1 n1x1), (.int .i64 i1x2), (.sl s1x3 n1x3)]::.any::vp p3::rep 26 (vi i30::vi i31::rep 171 []), h⟩ Q = (
 letK (decide (i31 < i30)) fun b32 =>
 if b32 = true then
  (
  atP p3 true fun a33 =>
  gP (ld1 h a33) true fun p33 =>
  atP p3 true fun a34 =>
  gP (ld1 h a34) true fun p34 =>
  atP p34 true fun a35 =>
  gL (ld1 h (Ad.add a35 0)) true fun s37 n37 =>
  chk (0 ≤ i1x2 ∧ i1x2 ≤ i1x2 ∧ i1x2 * ((1 : Nat) : Int) ≤ 70368744177664) <|
  newK h (.cells (repl (Int.toNat i1x2) [(.bool false)]) (.grow 1) 0) fun h_2 =>
  letK (Int.toNat i1x2) fun n40 =>
  newK h_2 (.cells [(.sl (.pos ⟨List.length h, 0, 0⟩) n40)] (.grow 1) 0) fun h_3 =>
  (ldSl h_3 (.pos ⟨List.length h_2, 0, 0⟩) (1 * 1)).bind fun y42 =>
  (apnd h_3 (.sl s37 n37) 1 24 y42 1).bind fun r42 =>
  gL (some r42.1) true fun s42 n42 =>
  reP p3 true 1 h_3 r42.2 <|
  atP p33 true fun a43 =>
  (st1 r42.2 (Ad.add a43 0) (.sl s42 n42)).bind fun h_4 =>
  letK (IntKind.wrap .i64 (i31 + 1)) fun i45 =>
  L40x5 M C i1x0 s1x1 n1x1 i1x2 s1x3 n1x3 p3 i30 i45 h_4 Q
  )
 else
  (
  Q (.exit 0) (S40xe0 i1x0 s1x1 n1x1 i1x2 s1x3 n1x3 p3 h)
  )
 ) := by kernel_rfl
theorem L40x5xeq : TEq (L40x5 mk0 C i1x0 s1x1 n1x1 i1x2 s1x3 n1x3 p3 i30 i31 h Q) (L40x5xaux mk0 C i1x0 s1x1 n1x1 i1x2 s1x3 n1x3 p3 i30 i31 h Q) := loop_te (by kernel_rfl)
theorem X40x5xe0 : Q40x5 M C (.exit 0) (S40xe0 i1x0 s1x1 n1x1 i1x2 s1x3 n1x3 p3 h) = (
 (C 28 [(.agg [(.int .i64 i1x0), (.sl s1x1 n1x1), (.int .i64 i1x2), (.sl s1x3 n1x3)])] h).bind fun r48 =>
 gT 3 r48.1 true fun u48 =>
 gL (some (List.getD u48 0 .opq)) true fun s48x0 n48x0 =>
 gL (some (List.getD u48 1 .opq)) true fun s48x1 n48x1 =>
 gI .i64 (some (List.getD u48 2 .opq)) true fun i48x2 =>
 L40x16 M C i1x0 s1x1 n1x1 i1x2 s1x3 n1x3 p3 s48x0 n48x0 s48x1 n48x1 s1x3 n1x3 (n1x3 : Int) 0 r48.2 (Q40x16 M C)
 ) := by kernel_rfl
theorem L40x16xaux : rnd M C k40x16 63050394783187002 26 ⟨.any::.box [(.int .i64 i1x0), (.sl s1x1 n1x1), (.int .i64 i1x2), (.sl s1x3 n1x3)]::.any::vp p3::vl s4 n4::vl s5 n5::rep 47 (vl s53 n53::vi i54::vi i55::rep 147 []), h⟩ Q = (
 letK (decide (i55 < i54)) fun b56 =>
 if b56 = true then
  (
  chk (true = true → 0 ≤ i55 ∧ i55 < (n53 : Int)) <|
  atP (adP s53) true fun a58 =>
  gCells (ldN h (Ad.add a58 (Int.toNat i55 * 7)) 7) true fun l59 =>
  gL (l59[0]?) true fun s59x0 n59x0 =>
  gI .i64 (l59[1]?) true fun i59x1 =>
  gI .i64 (l59[2]?) true fun i59x2 =>
  gI .i64 (l59[3]?) true fun i59x3 =>
  gI .i64 (l59[4]?) true fun i59x4 =>
  gI .i64 (l59[5]?) true fun i59x5 =>
  gL (l59[6]?) true fun s59x6 n59x6 =>
  chk (true = true → 0 ≤ i55 ∧ i55 < (n5 : Int)) <|
  atP (adP s5) true fun a62 =>
  gL (ld1 h (Ad.add a62 (Int.toNat i55 * 1))) true fun s63 n63 =>
  newK h (.cells [(.sl .nil 0)] .fix 0) fun h_2 =>
  (st1 h_2 ⟨List.length h, 0, 0⟩ (.sl s63 n63)).bind fun h_3 =>
  (C 31 [(.agg [(.int .i64 i59x1), (.int .i64 i59x2), (.int .i64 i59x3), (.int .i64 i59x4), (.int .i64 i59x5), (.sl s59x6 n59x6)])] h_3).bind fun r68 =>
  gL (some r68.1) true fun s68 n68 =>
  (C 77 [(.sl s68 n68), (.ptr (some ⟨List.length h, 0, 0⟩)), (.ptr p3)] r68.2).bind fun r69 =>
  gT 0 r69.1 true fun u69 =>
  letK (IntKind.wrap .i64 ((n59x0 : Int) - 1)) fun i73 =>
  L40x29 M C i1x0 s1x1 n1x1 i1x2 s1x3 n1x3 p3 s4 n4 s5 n5 s59x0 n59x0 i59x1 i59x2 i59x3 i59x4 i59x5 s59x6 n59x6 (some ⟨List.length h, 0, 0⟩) (some ⟨List.length h, 0, 0⟩) p3 i73 s53 n53 i54 i55 r69.2 (Q40x29 M C Q)
  )
 else
  (
  Q (.exit 2) (S40xe2 i1x0 s1x1 n1x1 i1x2 s1x3 n1x3 p3 s4 n4 h)
  )
 ) := by kernel_rfl
theorem L40x16xeq : TEq (L40x16 mk0 C i1x0 s1x1 n1x1 i1x2 s1x3 n1x3 p3 s4 n4 s5 n5 s53 n53 i54 i55 h Q) (L40x16xaux mk0 C i1x0 s1x1 n1x1 i1x2 s1x3 n1x3 p3 s4 n4 s5 n5 s53 n53 i54 i55 h Q) := loop_te (by kernel_rfl)
theorem L40x29xaux : rnd M C k40x29 63050394783190842 63050394783187002 ⟨(.any :: (.box [(.int .i64 i1x0), (.sl s1x1 n1x1), (.int .i64 i1x2), (.sl s1x3 n1x3)] :: (.any :: (vp p3 :: (vl s4 n4 :: (vl s5 n5 :: (.any :: .any :: (.box [(.sl s8x0 n8x0), (.int .i64 i8x1), (.int .i64 i8x2), (.int .i64 i8x3), (.int .i64 i8x4), (.int .i64 i8x5), (.sl s8x6 n8x6)]::vp p9::.g [] true (.fn 77 [] [(.ptr p10c0), (.ptr p10c1)])::vi i11::rep 41 (vl s53 n53::vi i54::vi i55::rep 147 []))))))))), h⟩ Q = (
 letK (decide (0 ≤ i11)) fun b75 =>
 if b75 = true then
  (
  chk (true = true → 0 ≤ i11 ∧ i11 < (n8x0 : Int)) <|
  atP (adP s8x0) true fun a81 =>
  gCells (ldN h (Ad.add a81 (Int.toNat i11 * 6)) 6) true fun l82 =>
  gI .i64 (l82[0]?) true fun i82x0 =>
  gI .i64 (l82[1]?) true fun i82x1 =>
  gI .i64 (l82[2]?) true fun i82x2 =>
  gI .i64 (l82[3]?) true fun i82x3 =>
  gI .i64 (l82[4]?) true fun i82x4 =>
  gL (l82[5]?) true fun s82x5 n82x5 =>
  (C 30 [(.agg [(.int .i64 i82x0), (.int .i64 i82x1), (.int .i64 i82x2), (.int .i64 i82x3), (.int .i64 i82x4), (.sl s82x5 n82x5)])] h).bind fun r84 =>
  gI .i64 (some r84.1) true fun i84 =>
  letK (decide (i82x0 = 100)) fun b87 =>
  if b87 = true then
   (
   letK (!decide (i82x2 = 0)) fun b92 =>
   letK (!decide (i84 = 0)) fun b95 =>
   letK (if b92 = true then b95 else false) fun b96 =>
   gI .i64 (some (.int .i64 i82x2)) b96 fun i99 =>
   letK (!decide (i99 = i84)) fun b101 =>
   letK (if b96 = true then b101 else false) fun b102 =>
   if b102 = true then
    (
    atP p3 true fun a103 =>
    gP (ld1 r84.2 a103) true fun p103 =>
    atP p3 true fun a104 =>
    gP (ld1 r84.2 a104) true fun p104 =>
    atP p104 true fun a105 =>
    gL (ld1 r84.2 (Ad.add a105 3)) true fun s107 n107 =>
    newK r84.2 (.cells [(.int .i64 i84), (.int .i64 i82x2)] (.grow 2) 0) fun h_2 =>
    (ldSl h_2 (.pos ⟨List.length r84.2, 0, 0⟩) (1 * 2)).bind fun y113 =>
    (apnd h_2 (.sl s107 n107) 2 16 y113 1).bind fun r113 =>
    gL (some r113.1) true fun s113 n113 =>
    reP p3 true 1 h_2 r113.2 <|
    atP p103 true fun a114 =>
    (st1 r113.2 (Ad.add a114 3) (.sl s113 n113)).bind fun h_3 =>
    J40x44 M C i1x0 s1x1 n1x1 i1x2 s1x3 n1x3 p3 s4 n4 s5 n5 s8x0 n8x0 i8x1 i8x2 i8x3 i8x4 i8x5 s8x6 n8x6 p9 p10c0 p10c1 i11 i82x0 i82x1 i82x2 i82x3 i82x4 s82x5 n82x5 i84 i82x2 s53 n53 i54 i55 h_3 Q
    )
   else
    (
    J40x44 M C i1x0 s1x1 n1x1 i1x2 s1x3 n1x3 p3 s4 n4 s5 n5 s8x0 n8x0 i8x1 i8x2 i8x3 i8x4 i8x5 s8x6 n8x6 p9 p10c0 p10c1 i11 i82x0 i82x1 i82x2 i82x3 i82x4 s82x5 n82x5 i84 i82x2 s53 n53 i54 i55 r84.2 Q
    )
   )
  else
   (
   J40x45 M C i1x0 s1x1 n1x1 i1x2 s1x3 n1x3 p3 s4 n4 s5 n5 s8x0 n8x0 i8x1 i8x2 i8x3 i8x4 i8x5 s8x6 n8x6 p9 p10c0 p10c1 i11 i82x0 i82x1 i82x2 i82x3 i82x4 s82x5 n82x5 i84 0 s53 n53 i54 i55 r84.2 Q
   )
  )
 else
  (
  Q (.exit 4) (S40xe4 i1x0 s1x1 n1x1 i1x2 s1x3 n1x3 p3 s4 n4 s5 n5 s53 n53 i54 i55 h)
  )
 ) := by kernel_rfl
theorem L40x29xeq : TEq (L40x29 mk0 C i1x0 s1x1 n1x1 i1x2 s1x3 n1x3 p3 s4 n4 s5 n5 s8x0 n8x0 i8x1 i8x2 i8x3 i8x4 i8x5 s8x6 n8x6 p9 p10c0 p10c1 i11 s53 n53 i54 i55 h Q) (L40x29xaux mk0 C i1x0 s1x1 n1x1 i1x2 s1x3 n1x3 p3 s4 n4 s5 n5 s8x0 n8x0 i8x1 i8x2 i8x3 i8x4 i8x5 s8x6 n8x6 p9 p10c0 p10c1 i11 s53 n53 i54 i55 h Q) := loop_te (by kernel_rfl)
theorem J40x44xaux : (forceK tk (.any :: (.box [(.int .i64 i1x0), (.sl s1x1 n1x1), (.int .i64 i1x2), (.sl s1x3 n1x3)] :: (.any :: (vp p3 :: (vl s4 n4 :: (vl s5 n5 :: (.any :: .any :: (.box [(.sl s8x0 n8x0), (.int .i64 i8x1), (.int .i64 i8x2), (.int .i64 i8x3), (.int .i64 i8x4), (.int .i64 i8x5), (.sl s8x6 n8x6)]::vp p9::.g [] true (.fn 77 [] [(.ptr p10c0), (.ptr p10c1)])::vi i11::.box [(.int .i64 i12x0), (.int .i64 i12x1), (.int .i64 i12x2), (.int .i64 i12x3), (.int .i64 i12x4), (.sl s12x5 n12x5)]::vi i13::vi i14::rep 38 (vl s53 n53::vi i54::vi i55::rep 147 []))))))))) fun e => (seqQ (evalE M C k40x40) (seqQ (evalE M C k40x38) (blockQ 5 (seqQ (evalE M C k40x35) (seqQ (evalE M C k40x34) (roundQ M C k40x29 63050394783190842 63050394783187002 Q)))))) .normal ⟨e, h⟩) = (
 J40x45 M C i1x0 s1x1 n1x1 i1x2 s1x3 n1x3 p3 s4 n4 s5 n5 s8x0 n8x0 i8x1 i8x2 i8x3 i8x4 i8x5 s8x6 n8x6 p9 p10c0 p10c1 i11 i12x0 i12x1 i12x2 i12x3 i12x4 s12x5 n12x5 i13 i14 s53 n53 i54 i55 h Q
 ) := by kernel_rfl
theorem J40x44xeq : TEq (J40x44 mk0 C i1x0 s1x1 n1x1 i1x2 s1x3 n1x3 p3 s4 n4 s5 n5 s8x0 n8x0 i8x1 i8x2 i8x3 i8x4 i8x5 s8x6 n8x6 p9 p10c0 p10c1 i11 i12x0 i12x1 i12x2 i12x3 i12x4 s12x5 n12x5 i13 i14 s53 n53 i54 i55 h Q) (J40x44xaux mk0 C i1x0 s1x1 n1x1 i1x2 s1x3 n1x3 p3 s4 n4 s5 n5 s8x0 n8x0 i8x1 i8x2 i8x3 i8x4 i8x5 s8x6 n8x6 p9 p10c0 p10c1 i11 i12x0 i12x1 i12x2 i12x3 i12x4 s12x5 n12x5 i13 i14 s53 n53 i54 i55 h Q) := join_te
theorem J40x45xaux (M : Mk) (C : Cal) (i1x0 : Int) (s1x1 : SA) (n1x1 : Nat) (i1x2 : Int) (s1x3 : SA) (n1x3 : Nat) (p3 : Option Ad) (s4 : SA) (n4 : Nat) (s5 : SA) (n5 : Nat) (s8x0 : SA) (n8x0 : Nat) (i8x1 i8x2 : Int) (i8x3 i8x4 i8x5 : Int) (s8x6 : SA) (n8x6 : Nat) (p9 : Option Ad) (p10c0 : Option Ad) (p10c1 : Option Ad) (i11 i12x0 : Int) (i12x1 i12x2 : Int) (i12x3 i12x4 : Int) (s12x5 : SA) (n12x5 : Nat) (i13 i14 : Int) (s53 : SA) (n53 : Nat) (i54 i55 : Int) (h : Heap) (Q : Kont R) : (forceK tk (.any :: (.box [(.int .i64 i1x0), (.sl s1x1 n1x1), (.int .i64 i1x2), (.sl s1x3 n1x3)] :: (.any :: (vp p3 :: (vl s4 n4 :: (vl s5 n5 :: (.any :: .any :: (.box [(.sl s8x0 n8x0), (.int .i64 i8x1), (.int .i64 i8x2), (.int .i64 i8x3), (.int .i64 i8x4), (.int .i64 i8x5), (.sl s8x6 n8x6)]::vp p9::.g [] true (.fn 77 [] [(.ptr p10c0), (.ptr p10c1)])::vi i11::.box [(.int .i64 i12x0), (.int .i64 i12x1), (.int .i64 i12x2), (.int .i64 i12x3), (.int .i64 i12x4), (.sl s12x5 n12x5)]::vi i13::vi i14::rep 38 (vl s53 n53::vi i54::vi i55::rep 147 []))))))))) fun e => (seqQ (evalE M C k40x38) (blockQ 5 (seqQ (evalE M C k40x35) (seqQ (evalE M C k40x34) (roundQ M C k40x29 63050394783190842 63050394783187002 Q))))) .normal ⟨e, h⟩) = (
 atP p3 true fun a116 =>
 gP (ld1 h a116) true fun p116 =>
 atP p9 true fun a119 =>
 gL (ld1 h a119) true fun s119 n119 =>
 (C 78 [(.ptr p116), (.int .i64 i13), (.int .i64 i14), (.sl s119 n119)] h).bind fun r120 =>
 gT 0 r120.1 true fun u120 =>
 atP p3 true fun a121 =>
 gP (ld1 r120.2 a121) true fun p121 =>
 atP p121 true fun a122 =>
 gL (ld1 r120.2 (Ad.add a122 2)) true fun s124 n124 =>
 atP p9 true fun a126 =>
 gL (ld1 r120.2 a126) true fun s126 n126 =>
 chk (true = true → 0 ≤ i13 ∧ i13 < (n124 : Int)) <|
 atP (adP s124) true fun a128 =>
 (st1 r120.2 (Ad.add a128 (Int.toNat i13 * 1)) (.bool true)).bind fun h_2 =>
 reP p9 true 1 r120.2 h_2 <|
 chk (true = true → 0 ≤ i13 ∧ i13 < (n126 : Int)) <|
 atP (adP s126) true fun a129 =>
 (st1 h_2 (Ad.add a129 (Int.toNat i13 * 1)) (.bool false)).bind fun h_3 =>
 (C 21 [(.int .i64 i12x0)] h_3).bind fun r132 =>
 gB (some r132.1) true fun b132 =>
 if b132 = true then
  (
  atP p9 true fun a133 =>
  gL (ld1 r132.2 a133) true fun s133 n133 =>
  L40x53 M C i1x0 s1x1 n1x1 i1x2 s1x3 n1x3 p3 s4 n4 s5 n5 s8x0 n8x0 i8x1 i8x2 i8x3 i8x4 i8x5 s8x6 n8x6 p9 p10c0 p10c1 i11 i12x0 i12x1 i12x2 i12x3 i12x4 s12x5 n12x5 s53 n53 i54 i55 s133 n133 (n133 : Int) 0 r132.2 (Q40x53 M C Q)
  )
 else
  (
  J40x61 M C i1x0 s1x1 n1x1 i1x2 s1x3 n1x3 p3 s4 n4 s5 n5 s8x0 n8x0 i8x1 i8x2 i8x3 i8x4 i8x5 s8x6 n8x6 p9 p10c0 p10c1 i11 i12x0 i12x1 i12x2 i12x3 i12x4 s12x5 n12x5 s53 n53 i54 i55 r132.2 Q
  )
 ) := by kernel_rfl
theorem J40x45xeq : TEq (J40x45 mk0 C i1x0 s1x1 n1x1 i1x2 s1x3 n1x3 p3 s4 n4 s5 n5 s8x0 n8x0 i8x1 i8x2 i8x3 i8x4 i8x5 s8x6 n8x6 p9 p10c0 p10c1 i11 i12x0 i12x1 i12x2 i12x3 i12x4 s12x5 n12x5 i13 i14 s53 n53 i54 i55 h Q) (J40x45xaux mk0 C i1x0 s1x1 n1x1 i1x2 s1x3 n1x3 p3 s4 n4 s5 n5 s8x0 n8x0 i8x1 i8x2 i8x3 i8x4 i8x5 s8x6 n8x6 p9 p10c0 p10c1 i11 i12x0 i12x1 i12x2 i12x3 i12x4 s12x5 n12x5 i13 i14 s53 n53 i54 i55 h Q) := join_te
theorem L40x53xaux : rnd M C k40x53 76223250190290215815795975115110862561082 63050394783194938 ⟨(.any :: (.box [(.int .i64 i1x0), (.sl s1x1 n1x1), (.int .i64 i1x2), (.sl s1x3 n1x3)] :: (.any :: (vp p3 :: (vl s4 n4 :: (vl s5 n5 :: (.any :: .any :: (.box [(.sl s8x0 n8x0), (.int .i64 i8x1), (.int .i64 i8x2), (.int .i64 i8x3), (.int .i64 i8x4), (.int .i64 i8x5), (.sl s8x6 n8x6)]::vp p9::.g [] true (.fn 77 [] [(.ptr p10c0), (.ptr p10c1)])::vi i11::.box [(.int .i64 i12x0), (.int .i64 i12x1), (.int .i64 i12x2), (.int .i64 i12x3), (.int .i64 i12x4), (.sl s12x5 n12x5)]::rep 40 (vl s53 n53::vi i54::vi i55::rep 77 (vl s133 n133::vi i134::vi i135::rep 67 [])))))))))), h⟩ Q = (
 letK (decide (i135 < i134)) fun b136 =>
 if b136 = true then
  (
  chk (true = true → 0 ≤ i135 ∧ i135 < (n133 : Int)) <|
  atP (adP s133) true fun a138 =>
  gB (ld1 h (Ad.add a138 (Int.toNat i135 * 1))) true fun b139 =>
  atP p3 true fun a140 =>
  gP (ld1 h a140) true fun p140 =>
  atP p140 true fun a141 =>
  gL (ld1 h (Ad.add a141 1)) true fun s143 n143 =>
  atP p3 true fun a145 =>
  gP (ld1 h a145) true fun p145 =>
  atP p145 true fun a146 =>
  gL (ld1 h (Ad.add a146 1)) true fun s148 n148 =>
  chk (true = true → 0 ≤ i135 ∧ i135 < (n148 : Int)) <|
  atP (adP s148) true fun a150 =>
  gB (ld1 h (Ad.add a150 (Int.toNat i135 * 1))) true fun b151 =>
  letK (if b151 = true then true else b139) fun b154 =>
  chk (true = true → 0 ≤ i135 ∧ i135 < (n143 : Int)) <|
  atP (adP s143) true fun a155 =>
  (st1 h (Ad.add a155 (Int.toNat i135 * 1)) (.bool b154)).bind fun h_2 =>
  letK (IntKind.wrap .i64 (i135 + 1)) fun i156 =>
  L40x53 M C i1x0 s1x1 n1x1 i1x2 s1x3 n1x3 p3 s4 n4 s5 n5 s8x0 n8x0 i8x1 i8x2 i8x3 i8x4 i8x5 s8x6 n8x6 p9 p10c0 p10c1 i11 i12x0 i12x1 i12x2 i12x3 i12x4 s12x5 n12x5 s53 n53 i54 i55 s133 n133 i134 i156 h_2 Q
  )
 else
  (
  Q (.exit 6) (S40xe6 i1x0 s1x1 n1x1 i1x2 s1x3 n1x3 p3 s4 n4 s5 n5 s8x0 n8x0 i8x1 i8x2 i8x3 i8x4 i8x5 s8x6 n8x6 p9 p10c0 p10c1 i11 i12x0 i12x1 i12x2 i12x3 i12x4 s12x5 n12x5 s53 n53 i54 i55 h)
  )
 ) := by kernel_rfl
theorem L40x53xeq : TEq (L40x53 mk0 C i1x0 s1x1 n1x1 i1x2 s1x3 n1x3 p3 s4 n4 s5 n5 s8x0 n8x0 i8x1 i8x2 i8x3 i8x4 i8x5 s8x6 n8x6 p9 p10c0 p10c1 i11 i12x0 i12x1 i12x2 i12x3 i12x4 s12x5 n12x5 s53 n53 i54 i55 s133 n133 i134 i135 h Q) (L40x53xaux mk0 C i1x0 s1x1 n1x1 i1x2 s1x3 n1x3 p3 s4 n4 s5 n5 s8x0 n8x0 i8x1 i8x2 i8x3 i8x4 i8x5 s8x6 n8x6 p9 p10c0 p10c1 i11 i12x0 i12x1 i12x2 i12x3 i12x4 s12x5 n12x5 s53 n53 i54 i55 s133 n133 i134 i135 h Q) := loop_te (by kernel_rfl)
theorem J40x61xaux : (forceK tk (.any :: (.box [(.int .i64 i1x0), (.sl s1x1 n1x1), (.int .i64 i1x2), (.sl s1x3 n1x3)] :: (.any :: (vp p3 :: (vl s4 n4 :: (vl s5 n5 :: (.any :: .any :: (.box [(.sl s8x0 n8x0), (.int .i64 i8x1), (.int .i64 i8x2), (.int .i64 i8x3), (.int .i64 i8x4), (.int .i64 i8x5), (.sl s8x6 n8x6)]::vp p9::.g [] true (.fn 77 [] [(.ptr p10c0), (.ptr p10c1)])::vi i11::.box [(.int .i64 i12x0), (.int .i64 i12x1), (.int .i64 i12x2), (.int .i64 i12x3), (.int .i64 i12x4), (.sl s12x5 n12x5)]::rep 40 (vl s53 n53::vi i54::vi i55::rep 147 []))))))))) fun e => (seqQ (evalE M C k40x48) (blockQ 5 (seqQ (evalE M C k40x35) (seqQ (evalE M C k40x34) (roundQ M C k40x29 63050394783190842 63050394783187002 Q))))) .normal ⟨e, h⟩) = (
 (C 29 [(.agg [(.int .i64 i12x0), (.int .i64 i12x1), (.int .i64 i12x2), (.int .i64 i12x3), (.int .i64 i12x4), (.sl s12x5 n12x5)])] h).bind fun r159 =>
 gL (some r159.1) true fun s159 n159 =>
 (C 77 [(.sl s159 n159), (.ptr p10c0), (.ptr p10c1)] r159.2).bind fun r160 =>
 gT 0 r160.1 true fun u160 =>
 letK (IntKind.wrap .i64 (i11 - 1)) fun i77 =>
 L40x29 M C i1x0 s1x1 n1x1 i1x2 s1x3 n1x3 p3 s4 n4 s5 n5 s8x0 n8x0 i8x1 i8x2 i8x3 i8x4 i8x5 s8x6 n8x6 p9 p10c0 p10c1 i77 s53 n53 i54 i55 r160.2 Q
 ) := by kernel_rfl
theorem J40x61xeq : TEq (J40x61 mk0 C i1x0 s1x1 n1x1 i1x2 s1x3 n1x3 p3 s4 n4 s5 n5 s8x0 n8x0 i8x1 i8x2 i8x3 i8x4 i8x5 s8x6 n8x6 p9 p10c0 p10c1 i11 i12x0 i12x1 i12x2 i12x3 i12x4 s12x5 n12x5 s53 n53 i54 i55 h Q) (J40x61xaux mk0 C i1x0 s1x1 n1x1 i1x2 s1x3 n1x3 p3 s4 n4 s5 n5 s8x0 n8x0 i8x1 i8x2 i8x3 i8x4 i8x5 s8x6 n8x6 p9 p10c0 p10c1 i11 i12x0 i12x1 i12x2 i12x3 i12x4 s12x5 n12x5 s53 n53 i54 i55 h Q) := join_te
theorem X40x16xe2 : Q40x16 M C (.exit 2) (S40xe2 i1x0 s1x1 n1x1 i1x2 s1x3 n1x3 p3 s4 n4 h) = (
 L40x65 M C i1x0 s1x1 n1x1 i1x2 s1x3 n1x3 p3 s4 n4 s1x1 n1x1 (n1x1 : Int) 0 h (Q40x65 M C)
 ) := by kernel_rfl
theorem L40x65xaux (i1x0 : Int) (s1x1 : SA) (n1x1 : Nat) (i1x2 : Int) (s1x3 : SA) (n1x3 : Nat) (p3 : Option Ad) (s4 : SA) (n4 : Nat) (s163 : SA) (n163 : Nat) (i164 i165 : Int) (h : Heap) (Q : Kont R) : rnd M C k40x65 81844091690530563419406350632111849100732222406682 8 ⟨.any::.box [(.int .i64 i1x0), (.sl s1x1 n1x1), (.int .i64 i1x2), (.sl s1x3 n1x3)]::.any::vp p3::vl s4 n4::rep 158 (vl s163 n163::vi i164::vi i165::rep 37 []), h⟩ Q = (
 letK (decide (i165 < i164)) fun b166 =>
 if b166 = true then
  (
  chk (true = true → 0 ≤ i165 ∧ i165 < (n163 : Int)) <|
  atP (adP s163) true fun a168 =>
  gI .i64 (ld1 h (Ad.add a168 (Int.toNat i165 * 1))) true fun i169 =>
  atP p3 true fun a170 =>
  gP (ld1 h a170) true fun p170 =>
  atP p170 true fun a171 =>
  gL (ld1 h (Ad.add a171 2)) true fun s173 n173 =>
  chk (true = true → 0 ≤ i169 ∧ i169 < (n173 : Int)) <|
  atP (adP s173) true fun a175 =>
  (st1 h (Ad.add a175 (Int.toNat i169 * 1)) (.bool true)).bind fun h_2 =>
  chkC (true = true → 0 ≤ i165 ∧ hiOk h_2 s1x1 n1x1 1 i165) <|
  letK (Int.toNat i165) fun n179 =>
  L40x77 M C i1x0 s1x1 n1x1 i1x2 s1x3 n1x3 p3 s4 n4 i169 s163 n163 i164 i165 s1x1 n179 (n179 : Int) 0 h_2 (Q40x77 M C Q)
  )
 else
  (
  Q (.exit 8) (S40xe8 p3 h)
  )
 ) := by kernel_rfl
theorem L40x65xeq : TEq (L40x65 mk0 C i1x0 s1x1 n1x1 i1x2 s1x3 n1x3 p3 s4 n4 s163 n163 i164 i165 h Q) (L40x65xaux mk0 C i1x0 s1x1 n1x1 i1x2 s1x3 n1x3 p3 s4 n4 s163 n163 i164 i165 h Q) := loop_te (by kernel_rfl)
theorem L40x77xaux : rnd M C k40x77 5363816237122301534817634001376714254514687659865276442 81844091690530563419406350632111849100732222668826 ⟨.any::.box [(.int .i64 i1x0), (.sl s1x1 n1x1), (.int .i64 i1x2), (.sl s1x3 n1x3)]::.any::vp p3::vl s4 n4::rep 13 (vi i18::rep 144 (vl s163 n163::vi i164::vi i165::rep 13 (vl s179 n179::vi i180::vi i181::rep 21 []))), h⟩ Q = (
 letK (decide (i181 < i180)) fun b182 =>
 if b182 = true then
  (
  chk (true = true → 0 ≤ i181 ∧ i181 < (n179 : Int)) <|
  atP (adP s179) true fun a183 =>
  gI .i64 (ld1 h (Ad.add a183 (Int.toNat i181 * 1))) true fun i184 =>
  atP p3 true fun a185 =>
  gP (ld1 h a185) true fun p185 =>
  (C 79 [(.ptr p185), (.int .i64 i18), (.int .i64 i184)] h).bind fun r188 =>
  gT 0 r188.1 true fun u188 =>
  letK (IntKind.wrap .i64 (i181 + 1)) fun i189 =>
  L40x77 M C i1x0 s1x1 n1x1 i1x2 s1x3 n1x3 p3 s4 n4 i18 s163 n163 i164 i165 s179 n179 i180 i189 r188.2 Q
  )
 else
  (
  Q (.exit 10) (S40xe10 i1x0 s1x1 n1x1 i1x2 s1x3 n1x3 p3 s4 n4 i18 s163 n163 i164 i165 h)
  )
 ) := by kernel_rfl
theorem L40x77xeq : TEq (L40x77 mk0 C i1x0 s1x1 n1x1 i1x2 s1x3 n1x3 p3 s4 n4 i18 s163 n163 i164 i165 s179 n179 i180 i181 h Q) (L40x77xaux mk0 C i1x0 s1x1 n1x1 i1x2 s1x3 n1x3 p3 s4 n4 i18 s163 n163 i164 i165 s179 n179 i180 i181 h Q) := loop_te (by kernel_rfl)
theorem X40x29xe4 : Q40x29 M C Q (.exit 4) (S40xe4 i1x0 s1x1 n1x1 i1x2 s1x3 n1x3 p3 s4 n4 s5 n5 s53 n53 i54 i55 h) = (
 letK (IntKind.wrap .i64 (i55 + 1)) fun i161 =>
 L40x16 M C i1x0 s1x1 n1x1 i1x2 s1x3 n1x3 p3 s4 n4 s5 n5 s53 n53 i54 i161 h Q
 ) := by kernel_rfl
theorem X40x53xe6 : Q40x53 M C Q (.exit 6) (S40xe6 i1x0 s1x1 n1x1 i1x2 s1x3 n1x3 p3 s4 n4 s5 n5 s8x0 n8x0 i8x1 i8x2 i8x3 i8x4 i8x5 s8x6 n8x6 p9 p10c0 p10c1 i11 i12x0 i12x1 i12x2 i12x3 i12x4 s12x5 n12x5 s53 n53 i54 i55 h) = (
 J40x61 M C i1x0 s1x1 n1x1 i1x2 s1x3 n1x3 p3 s4 n4 s5 n5 s8x0 n8x0 i8x1 i8x2 i8x3 i8x4 i8x5 s8x6 n8x6 p9 p10c0 p10c1 i11 i12x0 i12x1 i12x2 i12x3 i12x4 s12x5 n12x5 s53 n53 i54 i55 h Q
 ) := by kernel_rfl
theorem X40x65xe8 : Q40x65 M C (.exit 8) (S40xe8 p3 h) = (
 atP p3 true fun a197 =>
 gP (ld1 h a197) true fun p197 =>
 atP p197 true fun a198 =>
 gL (ld1 h (Ad.add a198 2)) true fun s200 n200 =>
 chk (true = true → (0 : Int) ≤ 0 ∧ (0 : Int) < (n200 : Int)) <|
 atP (adP s200) true fun a201 =>
 (st1 h (Ad.add a201 (Int.toNat 0 * 1)) (.bool false)).bind fun h_2 =>
 atP p3 true fun a202 =>
 gP (ld1 h_2 a202) true fun p202 =>
 some ((.ptr p202), h_2)
 ) := by kernel_rfl
theorem X40x77xe10 : Q40x77 M C Q (.exit 10) (S40xe10 i1x0 s1x1 n1x1 i1x2 s1x3 n1x3 p3 s4 n4 i18 s163 n163 i164 i165 h) = (
 atP p3 true fun a190 =>
 gP (ld1 h a190) true fun p190 =>
 chk (true = true → (0 : Int) ≤ 0 ∧ (0 : Int) < (n4 : Int)) <|
 atP (adP s4) true fun a193 =>
 gL (ld1 h (Ad.add a193 (Int.toNat 0 * 1))) true fun s194 n194 =>
 (C 78 [(.ptr p190), (.int .i64 i18), (.int .i64 0), (.sl s194 n194)] h).bind fun r195 =>
 gT 0 r195.1 true fun u195 =>
 letK (IntKind.wrap .i64 (i165 + 1)) fun i196 =>
 L40x65 M C i1x0 s1x1 n1x1 i1x2 s1x3 n1x3 p3 s4 n4 s163 n163 i164 i196 r195.2 Q
 ) := by kernel_rfl
end
noncomputable section
variable (p0 : Option Ad) (i1 i2 : Int) (s3 : SA) (n3 : Nat) (i9 : Int) (b10 : Bool) (s21 : SA) (n21 : Nat) (i22 i23 : Int) (h : Heap) (Q : Kont R)
def S43xe0 : St := ⟨rep 9 (vi i9::rep 31 []), h⟩
def S43xe2 : St := ⟨vp p0::vi i1::.any::vl s3 n3::rep 5 (vi i9::vb b10::rep 30 []), h⟩
def Q43x5 (M : Mk) (C : Cal) : Kont (AV × Heap) := (blockQ 0 (seqQ (evalE M C k43x4) (seqQ (evalE M C k43x2) (endQ [.tmp 8]))))
def L43x5 : Option R := loopE (evalE M C k43x5) 1547 512 ⟨vp p0::vi i1::.any::vl s3 n3::rep 5 (vi i9::vb b10::rep 30 []), h⟩ Q
def Q43x14 : Kont R := (blockQ 2 (seqQ (evalE M C k43x13) (blockQ 1 (seqQ (evalE M C k43x10) (roundQ M C k43x5 1547 512 Q)))))
def L43x14 : Option R := loopE (evalE M C k43x14) 14681611 1547 ⟨vp p0::vi i1::.any::vl s3 n3::rep 5 (vi i9::vb b10::rep 10 (vl s21 n21::vi i22::vi i23::rep 17 [])), h⟩ Q
def J43x25 : Option R := M R (blockQ 3 (seqQ (evalE M C k43x20) (seqQ (evalE M C k43x19) (roundQ M C k43x14 14681611 1547 Q)))) (vp p0::vi i1::.any::vl s3 n3::rep 5 (vi i9::vb b10::rep 10 (vl s21 n21::vi i22::vi i23::rep 17 []))) h
theorem r43 : runE M C c43 [(.ptr p0), (.int .i64 i1), (.int .i64 i2), (.sl s3 n3)] h = (
 L43x5 M C p0 i1 s3 n3 i2 true h (Q43x5 M C)
 ) := by kernel_rfl
theorem e43 : TEq (E 43 [(.ptr p0), (.int .i64 i1), (.int .i64 i2), (.sl s3 n3)] h) (r43 mk0 E p0 i1 i2 s3 n3 h) := (EV_eq (P := Try.prog) (T := T0) rfl cf43 _ h).trans (r43 mk0 E p0 i1 i2 s3 n3 h)
theorem L43x5xaux (p0 : Option Ad) (i1 : Int) (s3 : SA) (n3 : Nat) (i9 : Int) (b10 : Bool) (h : Heap) (Q : Kont R) : rnd M C k43x5 1547 512 ⟨vp p0::vi i1::.any::vl s3 n3::rep 5 (vi i9::vb b10::rep 30 []), h⟩ Q = (
 if b10 = true then
  (
  atP p0 true fun a16 =>
  gL (ld1 h (Ad.add a16 0)) true fun s18 n18 =>
  chk (true = true → 0 ≤ i1 ∧ i1 < (n18 : Int)) <|
  atP (adP s18) true fun a20 =>
  gL (ld1 h (Ad.add a20 (Int.toNat i1 * 1))) true fun s21 n21 =>
  L43x14 M C p0 i1 s3 n3 i9 false s21 n21 (n21 : Int) 0 h (Q43x14 M C Q)
  )
 else
  (
  Q (.exit 0) (S43xe0 i9 h)
  )
 ) := by kernel_rfl
theorem L43x5xeq : TEq (L43x5 mk0 C p0 i1 s3 n3 i9 b10 h Q) (L43x5xaux mk0 C p0 i1 s3 n3 i9 b10 h Q) := loop_te (by kernel_rfl)
theorem L43x14xaux : rnd M C k43x14 14681611 1547 ⟨vp p0::vi i1::.any::vl s3 n3::rep 5 (vi i9::vb b10::rep 10 (vl s21 n21::vi i22::vi i23::rep 17 [])), h⟩ Q = (
 letK (decide (i23 < i22)) fun b24 =>
 if b24 = true then
  (
  chk (true = true → 0 ≤ i23 ∧ i23 < (n21 : Int)) <|
  atP (adP s21) true fun a26 =>
  gB (ld1 h (Ad.add a26 (Int.toNat i23 * 1))) true fun b27 =>
  chk (b27 = true → 0 ≤ i23 ∧ i23 < (n3 : Int)) <|
  atP (adP s3) b27 fun a32 =>
  atP (some (Ad.add a32 (Int.toNat i23 * 1))) b27 fun a33 =>
  gI .i64 (ld1 h a33) b27 fun i33 =>
  letK (decide (i33 = i9)) fun b35 =>
  letK (if b27 = true then b35 else false) fun b36 =>
  if b36 = true then
   (
   letK (IntKind.wrap .i64 (i9 + 1)) fun i38 =>
   J43x25 M C p0 i1 s3 n3 i38 true s21 n21 i22 i23 h Q
   )
  else
   (
   J43x25 M C p0 i1 s3 n3 i9 b10 s21 n21 i22 i23 h Q
   )
  )
 else
  (
  Q (.exit 2) (S43xe2 p0 i1 s3 n3 i9 b10 h)
  )
 ) := by kernel_rfl
theorem L43x14xeq : TEq (L43x14 mk0 C p0 i1 s3 n3 i9 b10 s21 n21 i22 i23 h Q) (L43x14xaux mk0 C p0 i1 s3 n3 i9 b10 s21 n21 i22 i23 h Q) := loop_te (by kernel_rfl)
theorem J43x25xaux : (forceK tk (vp p0::vi i1::.any::vl s3 n3::rep 5 (vi i9::vb b10::rep 10 (vl s21 n21::vi i22::vi i23::rep 17 []))) fun e => (blockQ 3 (seqQ (evalE M C k43x20) (seqQ (evalE M C k43x19) (roundQ M C k43x14 14681611 1547 Q)))) .normal ⟨e, h⟩) = (
 letK (IntKind.wrap .i64 (i23 + 1)) fun i39 =>
 L43x14 M C p0 i1 s3 n3 i9 b10 s21 n21 i22 i39 h Q
 ) := by kernel_rfl
theorem J43x25xeq : TEq (J43x25 mk0 C p0 i1 s3 n3 i9 b10 s21 n21 i22 i23 h Q) (J43x25xaux mk0 C p0 i1 s3 n3 i9 b10 s21 n21 i22 i23 h Q) := join_te
theorem X43x5xe0 : Q43x5 M C (.exit 0) (S43xe0 i9 h) = (
 some ((.int .i64 i9), h)
 ) := by kernel_rfl
theorem X43x14xe2 : Q43x14 M C Q (.exit 2) (S43xe2 p0 i1 s3 n3 i9 b10 h) = (
 L43x5 M C p0 i1 s3 n3 i9 b10 h Q
 ) := by kernel_rfl
end
noncomputable section
variable (s0 : SA) (n0 : Nat) (i1 : Int) (h : Heap) (Q : Kont R)
def S44xe0 : St := ⟨.any::vi i1::rep 14 [], h⟩
def Q44x3 (M : Mk) (C : Cal) : Kont (AV × Heap) := (blockQ 0 (seqQ (evalE M C k44x2) (seqQ (evalE M C k44x1) (endQ [.tmp 4]))))
def L44x3 : Option R := loopE (evalE M C k44x3) 3 2 ⟨vl s0 n0::vi i1::rep 14 [], h⟩ Q
theorem r44 : runE M C c44 [(.sl s0 n0), (.int .i64 i1)] h = (
 L44x3 M C s0 n0 i1 h (Q44x3 M C)
 ) := by kernel_rfl
theorem e44 : TEq (E 44 [(.sl s0 n0), (.int .i64 i1)] h) (r44 mk0 E s0 n0 i1 h) := (EV_eq (P := Try.prog) (T := T0) rfl cf44 _ h).trans (r44 mk0 E s0 n0 i1 h)
theorem L44x3xaux : rnd M C k44x3 3 2 ⟨vl s0 n0::vi i1::rep 14 [], h⟩ Q = (
 chk (true = true → 0 ≤ i1 ∧ i1 < (n0 : Int)) <|
 atP (adP s0) true fun a7 =>
 gI .i64 (ld1 h (Ad.add a7 (Int.toNat i1 * 1))) true fun i8 =>
 letK (!decide (i8 = i1)) fun b10 =>
 if b10 = true then
  (
  chk (true = true → 0 ≤ i1 ∧ i1 < (n0 : Int)) <|
  atP (adP s0) true fun a13 =>
  gI .i64 (ld1 h (Ad.add a13 (Int.toNat i1 * 1))) true fun i14 =>
  L44x3 M C s0 n0 i14 h Q
  )
 else
  (
  Q (.exit 0) (S44xe0 i1 h)
  )
 ) := by kernel_rfl
theorem L44x3xeq : TEq (L44x3 mk0 C s0 n0 i1 h Q) (L44x3xaux mk0 C s0 n0 i1 h Q) := loop_te (by kernel_rfl)
theorem X44x3xe0 : Q44x3 M C (.exit 0) (S44xe0 i1 h) = (
 some ((.int .i64 i1), h)
 ) := by kernel_rfl
end
noncomputable section
def k96x9:=AC.exit 0
def k96x8:=AC.mask 456
def k96x14:=AC.join 456
def k96x13:=sq (.cond (.tmp 12)
 (of [
 mv 13 3,
 bc 14 .add 13 1,
 mv 3 14])
  (.skip)) k96x14
def k96x12:=sq (of [
 mv 12 5]) k96x13
def k96x11:=AC.mask 456
def k96x10:=of [
 bc 15 .add 8 1,
 mv 8 15]
def k96x7:=sq (.seq (.block 1 (.seq (of [
 ia 10 1 6 8,
 lb 11 10,
 mv 5 11]) k96x12)) k96x11) k96x10
def k96x6:=sq (.seq (.cond (.tmp 9)
 (.skip)
 (.seq (.mask 8) k96x9)) k96x8) k96x7
def k96x5:=sq (of [
 bt 9 .lss 8 7]) k96x6
def k96x4:=AC.mask 8
def k96x3:=sq (.block 0 (.loop 456 8 k96x5)) k96x4
def k96x17:=AC.ret
def k96x16:=sq (.mask 4) k96x17
def k96x2:=sq (of [
 mv 16 3,
 mv 2 16]) k96x16
def k96x1:=sq (.seq (of [
 mv 6 0,
 ln 7 6,
 o 8 (.move (c 0))]) k96x3) k96x2
def k96x0:=sq (of [
 o 3 (.move (c 0))]) k96x1
end
noncomputable section
variable (s0 : SA) (n0 : Nat) (i3 : Int) (s6 : SA) (n6 : Nat) (i7 i8 : Int) (h : Heap) (Q : Kont R)
def c96 : AFn := ⟨17, [.tmp 2],
 .seq (of [
 o 2 (.move (c 0))]) k96x0⟩
def S96xe0 : St := ⟨rep 3 (vi i3::rep 13 []), h⟩
def Q96x5 (M : Mk) (C : Cal) : Kont (AV × Heap) := (blockQ 0 (seqQ (evalE M C k96x4) (seqQ (evalE M C k96x2) (endQ [.tmp 2]))))
def L96x5 : Option R := loopE (evalE M C k96x5) 456 8 ⟨(rep 3 (vi i3 :: (.any :: .any :: (vl s6 n6::vi i7::vi i8::rep 8 [])))), h⟩ Q
def J96x15 : Option R := M R (blockQ 1 (seqQ (evalE M C k96x11) (seqQ (evalE M C k96x10) (roundQ M C k96x5 456 8 Q)))) (rep 3 (vi i3 :: (.any :: .any :: (vl s6 n6::vi i7::vi i8::rep 8 [])))) h
theorem r96 : runE M C c96 [(.sl s0 n0)] h = (
 L96x5 M C 0 s0 n0 (n0 : Int) 0 h (Q96x5 M C)
 ) := by kernel_rfl
theorem cf96 : cFn Try.prog 96 = some c96 := by kernel_rfl
theorem e96 : TEq (E 96 [(.sl s0 n0)] h) (r96 mk0 E s0 n0 h) := (EV_eq (P := Try.prog) (T := T0) rfl cf96 _ h).trans (r96 mk0 E s0 n0 h)
theorem L96x5xaux : rnd M C k96x5 456 8 ⟨(rep 3 (vi i3 :: (.any :: .any :: (vl s6 n6::vi i7::vi i8::rep 8 [])))), h⟩ Q = (
 letK (decide (i8 < i7)) fun b9 =>
 if b9 = true then
  (
  chk (true = true → 0 ≤ i8 ∧ i8 < (n6 : Int)) <|
  atP (adP s6) true fun a10 =>
  gB (ld1 h (Ad.add a10 (Int.toNat i8 * 1))) true fun b11 =>
  if b11 = true then
   (
   letK (IntKind.wrap .i64 (i3 + 1)) fun i14 =>
   J96x15 M C i14 s6 n6 i7 i8 h Q
   )
  else
   (
   J96x15 M C i3 s6 n6 i7 i8 h Q
   )
  )
 else
  (
  Q (.exit 0) (S96xe0 i3 h)
  )
 ) := by kernel_rfl
theorem L96x5xeq : TEq (L96x5 mk0 C i3 s6 n6 i7 i8 h Q) (L96x5xaux mk0 C i3 s6 n6 i7 i8 h Q) := loop_te (by kernel_rfl)
theorem J96x15xaux : (forceK tk (rep 3 (vi i3 :: (.any :: .any :: (vl s6 n6::vi i7::vi i8::rep 8 [])))) fun e => (blockQ 1 (seqQ (evalE M C k96x11) (seqQ (evalE M C k96x10) (roundQ M C k96x5 456 8 Q)))) .normal ⟨e, h⟩) = (
 letK (IntKind.wrap .i64 (i8 + 1)) fun i15 =>
 L96x5 M C i3 s6 n6 i7 i15 h Q
 ) := by kernel_rfl
theorem J96x15xeq : TEq (J96x15 mk0 C i3 s6 n6 i7 i8 h Q) (J96x15xaux mk0 C i3 s6 n6 i7 i8 h Q) := join_te
theorem X96x5xe0 : Q96x5 M C (.exit 0) (S96xe0 i3 h) = (
 some ((.int .i64 i3), h)
 ) := by kernel_rfl
end
noncomputable section
def k81x8:=AC.exit 0
def k81x7:=AC.mask 458949
def k81x15:=AC.exit 1
def k81x14:=AC.mask 459205
def k81x13:=sq (.cond (.tmp 24)
 (.seq (.mask 458949) k81x15)
 (.skip)) k81x14
def k81x18:=AC.join 458949
def k81x17:=sq (.cond (.tmp 36)
 (of [
 mv 37 7,
 bc 38 .add 37 1,
 mv 7 38])
  (.skip)) k81x18
def k81x16:=sq (of [
 mv 27 0,
 nc 28 27,
 fa 29 0 28,
 ls 30 29,
 mv 31 8,
 ia 32 1 30 31,
 ls 33 32,
 o 34 (.call 96 [(t 33)] [I] (.int .i64 0)),
 mv 35 2,
 bt 36 .geq 34 35]) k81x17
def k81x12:=sq (of [
 mv 25 6,
 bc 26 .add 25 1,
 mv 6 26]) k81x16
def k81x11:=sq (.seq (of [
 mv 23 9,
 o 24 (.un .not (t 23))]) k81x13) k81x12
def k81x10:=AC.join 458949
def k81x9:=of [
 bc 39 .add 18 1,
 mv 18 39]
def k81x6:=sq (.seq (.block 1 (.seq (of [
 mv 20 18,
 ia 21 1 16 18,
 lb 22 21,
 mv 8 20,
 mv 9 22]) k81x11)) k81x10) k81x9
def k81x5:=sq (.seq (.cond (.tmp 19)
 (.skip)
 (.seq (.mask 192) k81x8)) k81x7) k81x6
def k81x4:=sq (of [
 bt 19 .lss 18 17]) k81x5
def k81x3:=AC.mask 192
def k81x2:=sq (.block 0 (.loop 458949 192 k81x4)) k81x3
def k81x22:=AC.ret
def k81x21:=sq (.mask 192) k81x22
def k81x1:=sq (of [
 mv 40 6,
 mv 41 7,
 mv 6 40,
 mv 7 41]) k81x21
def k81x0:=sq (.seq (of [
 mv 10 0,
 nc 11 10,
 fa 12 0 11,
 ls 13 12,
 mv 14 1,
 ia 15 1 13 14,
 ls 16 15,
 ln 17 16,
 o 18 (.move (c 0))]) k81x2) k81x1
end
noncomputable section
variable (p0 : Option Ad) (i1 i2 i6 i7 : Int) (s16 : SA) (n16 : Nat) (i17 i18 : Int) (h : Heap) (Q : Kont R)
def c81 : AFn := ⟨42, [.tmp 6, .tmp 7],
 .seq (of [
 o 6 (.move (c 0)),
 o 7 (.move (c 0))]) k81x0⟩
def S81xe0 : St := ⟨rep 6 (vi i6::vi i7::rep 34 []), h⟩
def Q81x4 (M : Mk) (C : Cal) : Kont (AV × Heap) := (blockQ 0 (seqQ (evalE M C k81x3) (seqQ (evalE M C k81x1) (endQ [.tmp 6, .tmp 7]))))
def L81x4 : Option R := loopE (evalE M C k81x4) 458949 192 ⟨vp p0::.any::vi i2::rep 3 (vi i6::vi i7::rep 8 (vl s16 n16::vi i17::vi i18::rep 23 [])), h⟩ Q
def J81x20 : Option R := M R (seqQ (evalE M C k81x9) (roundQ M C k81x4 458949 192 Q)) (vp p0::.any::vi i2::rep 3 (vi i6::vi i7::rep 8 (vl s16 n16::vi i17::vi i18::rep 23 []))) h
def J81x19 : Option R := M R (blockQ 1 (seqQ (evalE M C k81x10) (seqQ (evalE M C k81x9) (roundQ M C k81x4 458949 192 Q)))) (vp p0::.any::vi i2::rep 3 (vi i6::vi i7::rep 8 (vl s16 n16::vi i17::vi i18::rep 23 []))) h
theorem r81 (p0 : Option Ad) (i1 i2 : Int) (h : Heap) : runE M C c81 [(.ptr p0), (.int .i64 i1), (.int .i64 i2)] h = (
 atP p0 true fun a11 =>
 gL (ld1 h (Ad.add a11 0)) true fun s13 n13 =>
 chk (true = true → 0 ≤ i1 ∧ i1 < (n13 : Int)) <|
 atP (adP s13) true fun a15 =>
 gL (ld1 h (Ad.add a15 (Int.toNat i1 * 1))) true fun s16 n16 =>
 L81x4 M C p0 i2 0 0 s16 n16 (n16 : Int) 0 h (Q81x4 M C)
 ) := by kernel_rfl
theorem cf81 : cFn Try.prog 81 = some c81 := by kernel_rfl
theorem e81 : TEq (E 81 [(.ptr p0), (.int .i64 i1), (.int .i64 i2)] h) (r81 mk0 E p0 i1 i2 h) := (EV_eq (P := Try.prog) (T := T0) rfl cf81 _ h).trans (r81 mk0 E p0 i1 i2 h)
theorem L81x4xaux : rnd M C k81x4 458949 192 ⟨vp p0::.any::vi i2::rep 3 (vi i6::vi i7::rep 8 (vl s16 n16::vi i17::vi i18::rep 23 [])), h⟩ Q = (
 letK (decide (i18 < i17)) fun b19 =>
 if b19 = true then
  (
  chk (true = true → 0 ≤ i18 ∧ i18 < (n16 : Int)) <|
  atP (adP s16) true fun a21 =>
  gB (ld1 h (Ad.add a21 (Int.toNat i18 * 1))) true fun b22 =>
  if (!b22) = true then
   (
   J81x20 M C p0 i2 i6 i7 s16 n16 i17 i18 h Q
   )
  else
   (
   letK (IntKind.wrap .i64 (i6 + 1)) fun i26 =>
   atP p0 true fun a28 =>
   gL (ld1 h (Ad.add a28 0)) true fun s30 n30 =>
   chk (true = true → 0 ≤ i18 ∧ i18 < (n30 : Int)) <|
   atP (adP s30) true fun a32 =>
   gL (ld1 h (Ad.add a32 (Int.toNat i18 * 1))) true fun s33 n33 =>
   (C 96 [(.sl s33 n33)] h).bind fun r34 =>
   gI .i64 (some r34.1) true fun i34 =>
   letK (decide (i2 ≤ i34)) fun b36 =>
   if b36 = true then
    (
    letK (IntKind.wrap .i64 (i7 + 1)) fun i38 =>
    J81x19 M C p0 i2 i26 i38 s16 n16 i17 i18 r34.2 Q
    )
   else
    (
    J81x19 M C p0 i2 i26 i7 s16 n16 i17 i18 r34.2 Q
    )
   )
  )
 else
  (
  Q (.exit 0) (S81xe0 i6 i7 h)
  )
 ) := by kernel_rfl
theorem L81x4xeq : TEq (L81x4 mk0 C p0 i2 i6 i7 s16 n16 i17 i18 h Q) (L81x4xaux mk0 C p0 i2 i6 i7 s16 n16 i17 i18 h Q) := loop_te (by kernel_rfl)
theorem J81x20xaux : (forceK tk (vp p0::.any::vi i2::rep 3 (vi i6::vi i7::rep 8 (vl s16 n16::vi i17::vi i18::rep 23 []))) fun e => (seqQ (evalE M C k81x9) (roundQ M C k81x4 458949 192 Q)) .normal ⟨e, h⟩) = (
 letK (IntKind.wrap .i64 (i18 + 1)) fun i39 =>
 L81x4 M C p0 i2 i6 i7 s16 n16 i17 i39 h Q
 ) := by kernel_rfl
theorem J81x20xeq : TEq (J81x20 mk0 C p0 i2 i6 i7 s16 n16 i17 i18 h Q) (J81x20xaux mk0 C p0 i2 i6 i7 s16 n16 i17 i18 h Q) := join_te
theorem J81x19xaux : (forceK tk (vp p0::.any::vi i2::rep 3 (vi i6::vi i7::rep 8 (vl s16 n16::vi i17::vi i18::rep 23 []))) fun e => (blockQ 1 (seqQ (evalE M C k81x10) (seqQ (evalE M C k81x9) (roundQ M C k81x4 458949 192 Q)))) .normal ⟨e, h⟩) = (
 J81x20 M C p0 i2 i6 i7 s16 n16 i17 i18 h Q
 ) := by kernel_rfl
theorem J81x19xeq : TEq (J81x19 mk0 C p0 i2 i6 i7 s16 n16 i17 i18 h Q) (J81x19xaux mk0 C p0 i2 i6 i7 s16 n16 i17 i18 h Q) := join_te
theorem X81x4xe0 : Q81x4 M C (.exit 0) (S81xe0 i6 i7 h) = (
 some (.tup [(.int .i64 i6), (.int .i64 i7)], h)
 ) := by kernel_rfl
end
noncomputable section
variable (p0 : Option Ad) (i1 : Int) (s5 : SA) (n5 : Nat) (i9 i10 : Int) (s11 : SA) (n11 : Nat) (i26 i27 : Int) (s38 : SA) (n38 : Nat) (i39 i40 : Int) (s104 : SA) (n104 : Nat) (i105 i106 : Int) (s143 : SA) (n143 : Nat) (i144 i145 i184 i185 : Int) (h : Heap) (Q : Kont R)
def S41xe0 : St := ⟨vp p0::vi i1::rep 3 (vl s5 n5::rep 213 []), h⟩
def S41xe2 : St := ⟨rep 5 (vl s5 n5::rep 213 []), h⟩
def S41xe4 : St := ⟨vp p0::vi i1::rep 3 (vl s5 n5::rep 3 (vi i9::vi i10::vl s11 n11::rep 26 (vl s38 n38::vi i39::vi i40::rep 178 []))), h⟩
def S41xe6 : St := ⟨vp p0::vi i1::rep 3 (vl s5 n5::rep 32 (vl s38 n38::vi i39::vi i40::rep 178 [])), h⟩
def S41xe8 : St := ⟨vp p0::vi i1::rep 3 (vl s5 n5::rep 3 (vi i9::vi i10::rep 27 (vl s38 n38::vi i39::vi i40::rep 178 []))), h⟩
def Q41x5 (M : Mk) (C : Cal) : Kont (AV × Heap) := (blockQ 0 (seqQ (evalE M C k41x4) (seqQ (evalE M C k41x2) (endQ [.tmp 4]))))
def L41x5 : Option R := loopE (evalE M C k41x5) 201326627 35 ⟨vp p0::vi i1::rep 3 (vl s5 n5::rep 20 (vi i26::vi i27::rep 191 [])), h⟩ Q
def Q41x16 (M : Mk) (C : Cal) : Kont (AV × Heap) := (blockQ 2 (seqQ (evalE M C k41x15) (seqQ (evalE M C k41x13) (endQ [.tmp 4]))))
def L41x16 : Option R := loopE (evalE M C k41x16) 1924145348643 32 ⟨vp p0::vi i1::rep 3 (vl s5 n5::rep 32 (vl s38 n38::vi i39::vi i40::rep 178 [])), h⟩ Q
def J41x75 : Option R := M R (seqQ (evalE M C k41x21) (roundQ M C k41x16 1924145348643 32 Q)) (vp p0::vi i1::rep 3 (vl s5 n5::rep 32 (vl s38 n38::vi i39::vi i40::rep 178 []))) h
def Q41x33 : Kont R := (blockQ 4 (seqQ (evalE M C k41x32) (seqQ (evalE M C k41x30) (blockQ 3 (seqQ (evalE M C k41x22) (seqQ (evalE M C k41x21) (roundQ M C k41x16 1924145348643 32 Q)))))))
def L41x33 : Option R := loopE (evalE M C k41x33) 141976867225561692969554904354339 1924145352227 ⟨vp p0::vi i1::rep 3 (vl s5 n5::rep 3 (vi i9::vi i10::vl s11 n11::rep 26 (vl s38 n38::vi i39::vi i40::rep 63 (vl s104 n104::vi i105::vi i106::rep 112 [])))), h⟩ Q
def J41x43 : Option R := M R (blockQ 5 (seqQ (evalE M C k41x39) (seqQ (evalE M C k41x38) (roundQ M C k41x33 141976867225561692969554904354339 1924145352227 Q)))) (vp p0::vi i1::rep 3 (vl s5 n5::rep 3 (vi i9::vi i10::vl s11 n11::rep 26 (vl s38 n38::vi i39::vi i40::rep 63 (vl s104 n104::vi i105::vi i106::rep 112 []))))) h
def Q41x51 : Kont R := (blockQ 6 (seqQ (evalE M C k41x50) (seqQ (evalE M C k41x48) (seqQ (evalE M C k41x47) (seqQ (evalE M C k41x44) (blockQ 3 (seqQ (evalE M C k41x22) (seqQ (evalE M C k41x21) (roundQ M C k41x16 1924145348643 32 Q)))))))))
def L41x51 : Option R := loopE (evalE M C k41x51) 78052608194857180995375013954271189416282659 1924145348643 ⟨vp p0::vi i1::rep 3 (vl s5 n5::rep 3 (vi i9::.any::vl s11 n11::rep 26 (vl s38 n38::vi i39::vi i40::rep 102 (vl s143 n143::vi i144::vi i145::rep 73 [])))), h⟩ Q
def Q41x66 : Kont R := (blockQ 8 (seqQ (evalE M C k41x65) (seqQ (evalE M C k41x63) (blockQ 3 (seqQ (evalE M C k41x22) (seqQ (evalE M C k41x21) (roundQ M C k41x16 1924145348643 32 Q)))))))
def L41x66 : Option R := loopE (evalE M C k41x66) 73559785961562665201200657303214840813699479788958254627 1924145350179 ⟨vp p0::vi i1::rep 3 (vl s5 n5::rep 3 (vi i9::vi i10::rep 27 (vl s38 n38::vi i39::vi i40::rep 143 (vi i184::vi i185::rep 33 [])))), h⟩ Q
def J41x61 : Option R := M R (blockQ 7 (seqQ (evalE M C k41x57) (seqQ (evalE M C k41x56) (roundQ M C k41x51 78052608194857180995375013954271189416282659 1924145348643 Q)))) (vp p0::vi i1::rep 3 (vl s5 n5::rep 3 (vi i9::.any::vl s11 n11::rep 26 (vl s38 n38::vi i39::vi i40::rep 102 (vl s143 n143::vi i144::vi i145::rep 73 []))))) h
theorem r41 : runE M C c41 [(.ptr p0), (.int .i64 i1)] h = (
 atP p0 true fun a20 =>
 gL (ld1 h (Ad.add a20 0)) true fun s22 n22 =>
 chk ((0 : Int) ≤ (n22 : Int) ∧ ((n22 : Int) : Int) ≤ (n22 : Int) ∧ (n22 : Int) * ((8 : Nat) : Int) ≤ 70368744177664) <|
 newK h (.cells (repl (Int.toNat (n22 : Int)) [(.int .i64 0)]) (.grow 1) 0) fun h_2 =>
 letK (Int.toNat (n22 : Int)) fun n24 =>
 L41x5 M C p0 i1 (.pos ⟨List.length h, 0, 0⟩) n24 (n24 : Int) 0 h_2 (Q41x5 M C)
 ) := by kernel_rfl
theorem e41 : TEq (E 41 [(.ptr p0), (.int .i64 i1)] h) (r41 mk0 E p0 i1 h) := (EV_eq (P := Try.prog) (T := T0) rfl cf41 _ h).trans (r41 mk0 E p0 i1 h)
theorem L41x5xaux : rnd M C k41x5 201326627 35 ⟨vp p0::vi i1::rep 3 (vl s5 n5::rep 20 (vi i26::vi i27::rep 191 [])), h⟩ Q = (
 letK (decide (i27 < i26)) fun b28 =>
 if b28 = true then
  (
  chk (true = true → 0 ≤ i27 ∧ i27 < (n5 : Int)) <|
  atP (adP s5) true fun a33 =>
  (st1 h (Ad.add a33 (Int.toNat i27 * 1)) (.int .i64 i27)).bind fun h_2 =>
  letK (IntKind.wrap .i64 (i27 + 1)) fun i34 =>
  L41x5 M C p0 i1 s5 n5 i26 i34 h_2 Q
  )
 else
  (
  Q (.exit 0) (S41xe0 p0 i1 s5 n5 h)
  )
 ) := by kernel_rfl
theorem L41x5xeq : TEq (L41x5 mk0 C p0 i1 s5 n5 i26 i27 h Q) (L41x5xaux mk0 C p0 i1 s5 n5 i26 i27 h Q) := loop_te (by kernel_rfl)
theorem X41x5xe0 (p0 : Option Ad) (i1 : Int) (s5 : SA) (n5 : Nat) (h : Heap) : Q41x5 M C (.exit 0) (S41xe0 p0 i1 s5 n5 h) = (
 atP p0 true fun a36 =>
 gL (ld1 h (Ad.add a36 3)) true fun s38 n38 =>
 L41x16 M C p0 i1 s5 n5 s38 n38 (n38 : Int) 0 h (Q41x16 M C)
 ) := by kernel_rfl
theorem L41x16xaux (p0 : Option Ad) (i1 : Int) (s5 : SA) (n5 : Nat) (s38 : SA) (n38 : Nat) (i39 i40 : Int) (h : Heap) (Q : Kont R) : rnd M C k41x16 1924145348643 32 ⟨vp p0::vi i1::rep 3 (vl s5 n5::rep 32 (vl s38 n38::vi i39::vi i40::rep 178 [])), h⟩ Q = (
 letK (decide (i40 < i39)) fun b41 =>
 if b41 = true then
  (
  chk (true = true → 0 ≤ i40 ∧ i40 < (n38 : Int)) <|
  atP (adP s38) true fun a42 =>
  gCells (ldN h (Ad.add a42 (Int.toNat i40 * 2)) 2) true fun l43 =>
  gI .i64 (l43[0]?) true fun i43x0 =>
  gI .i64 (l43[1]?) true fun i43x1 =>
  chk (true = true → (0 : Int) ≤ 0 ∧ (0 : Int) < ((2 : Nat) : Int)) <|
  gI .i64 ([(.int .i64 i43x0), (.int .i64 i43x1)][(0 + Int.toNat 0 * 1)]?) true fun i46 =>
  chk (true = true → (0 : Int) ≤ 1 ∧ (1 : Int) < ((2 : Nat) : Int)) <|
  gI .i64 ([(.int .i64 i43x0), (.int .i64 i43x1)][(0 + Int.toNat 1 * 1)]?) true fun i48 =>
  letK (foldMM false i46 [i48]) fun i49 =>
  chk (true = true → (0 : Int) ≤ 0 ∧ (0 : Int) < ((2 : Nat) : Int)) <|
  gI .i64 ([(.int .i64 i43x0), (.int .i64 i43x1)][(0 + Int.toNat 0 * 1)]?) true fun i53 =>
  chk (true = true → (0 : Int) ≤ 1 ∧ (1 : Int) < ((2 : Nat) : Int)) <|
  gI .i64 ([(.int .i64 i43x0), (.int .i64 i43x1)][(0 + Int.toNat 1 * 1)]?) true fun i55 =>
  letK (foldMM true i53 [i55]) fun i56 =>
  (C 44 [(.sl s5 n5), (.int .i64 i49)] h).bind fun r50 =>
  gI .i64 (some r50.1) true fun i50 =>
  (C 44 [(.sl s5 n5), (.int .i64 i56)] r50.2).bind fun r57 =>
  gI .i64 (some r57.1) true fun i57 =>
  letK (decide (i50 = i57)) fun b60 =>
  atP p0 (!b60) fun a63 =>
  atP (some a63) (!b60) fun a64 =>
  atP (some (Ad.add a64 0)) (!b60) fun a65 =>
  gL (ld1 r57.2 a65) (!b60) fun s65 n65 =>
  chk ((!b60) = true → 0 ≤ i50 ∧ i50 < (n65 : Int)) <|
  atP (adP s65) (!b60) fun a67 =>
  atP (some (Ad.add a67 (Int.toNat i50 * 1))) (!b60) fun a68 =>
  gL (ld1 r57.2 a68) (!b60) fun s68 n68 =>
  chk ((!b60) = true → 0 ≤ i57 ∧ i57 < (n68 : Int)) <|
  atP (adP s68) (!b60) fun a70 =>
  atP (some (Ad.add a70 (Int.toNat i57 * 1))) (!b60) fun a71 =>
  gB (ld1 r57.2 a71) (!b60) fun b71 =>
  letK (if b60 = true then true else b71) fun b72 =>
  atP p0 (!b72) fun a75 =>
  atP (some a75) (!b72) fun a76 =>
  atP (some (Ad.add a76 1)) (!b72) fun a77 =>
  gL (ld1 r57.2 a77) (!b72) fun s77 n77 =>
  chk ((!b72) = true → 0 ≤ i50 ∧ i50 < (n77 : Int)) <|
  atP (adP s77) (!b72) fun a79 =>
  atP (some (Ad.add a79 (Int.toNat i50 * 1))) (!b72) fun a80 =>
  gB (ld1 r57.2 a80) (!b72) fun b80 =>
  atP p0 (!b72) fun a82 =>
  atP (some a82) (!b72) fun a83 =>
  atP (some (Ad.add a83 1)) (!b72) fun a84 =>
  gL (ld1 r57.2 a84) (!b72) fun s84 n84 =>
  chk ((!b72) = true → 0 ≤ i57 ∧ i57 < (n84 : Int)) <|
  atP (adP s84) (!b72) fun a86 =>
  atP (some (Ad.add a86 (Int.toNat i57 * 1))) (!b72) fun a87 =>
  gB (ld1 r57.2 a87) (!b72) fun b87 =>
  letK (!(b80 == b87)) fun b88 =>
  letK (if b72 = true then true else b88) fun b89 =>
  if b89 = true then
   (
   J41x75 M C p0 i1 s5 n5 s38 n38 i39 i40 r57.2 Q
   )
  else
   (
   atP p0 true fun a91 =>
   gL (ld1 r57.2 (Ad.add a91 0)) true fun s93 n93 =>
   chk (true = true → 0 ≤ i50 ∧ i50 < (n93 : Int)) <|
   atP (adP s93) true fun a95 =>
   gL (ld1 r57.2 (Ad.add a95 (Int.toNat i50 * 1))) true fun s96 n96 =>
   (C 80 [(.sl s96 n96)] r57.2).bind fun r97 =>
   gL (some r97.1) true fun s97 n97 =>
   atP p0 true fun a99 =>
   gL (ld1 r97.2 (Ad.add a99 0)) true fun s101 n101 =>
   chk (true = true → 0 ≤ i57 ∧ i57 < (n101 : Int)) <|
   atP (adP s101) true fun a103 =>
   gL (ld1 r97.2 (Ad.add a103 (Int.toNat i57 * 1))) true fun s104 n104 =>
   L41x33 M C p0 i1 s5 n5 i50 i57 s97 n97 s38 n38 i39 i40 s104 n104 (n104 : Int) 0 r97.2 (Q41x33 M C Q)
   )
  )
 else
  (
  Q (.exit 2) (S41xe2 s5 n5 h)
  )
 ) := by kernel_rfl
theorem L41x16xeq : TEq (L41x16 mk0 C p0 i1 s5 n5 s38 n38 i39 i40 h Q) (L41x16xaux mk0 C p0 i1 s5 n5 s38 n38 i39 i40 h Q) := loop_te (by kernel_rfl)
theorem J41x75xaux : (forceK tk (vp p0::vi i1::rep 3 (vl s5 n5::rep 32 (vl s38 n38::vi i39::vi i40::rep 178 []))) fun e => (seqQ (evalE M C k41x21) (roundQ M C k41x16 1924145348643 32 Q)) .normal ⟨e, h⟩) = (
 letK (IntKind.wrap .i64 (i40 + 1)) fun i217 =>
 L41x16 M C p0 i1 s5 n5 s38 n38 i39 i217 h Q
 ) := by kernel_rfl
theorem J41x75xeq : TEq (J41x75 mk0 C p0 i1 s5 n5 s38 n38 i39 i40 h Q) (J41x75xaux mk0 C p0 i1 s5 n5 s38 n38 i39 i40 h Q) := join_te
theorem L41x33xaux : rnd M C k41x33 141976867225561692969554904354339 1924145352227 ⟨vp p0::vi i1::rep 3 (vl s5 n5::rep 3 (vi i9::vi i10::vl s11 n11::rep 26 (vl s38 n38::vi i39::vi i40::rep 63 (vl s104 n104::vi i105::vi i106::rep 112 [])))), h⟩ Q = (
 letK (decide (i106 < i105)) fun b107 =>
 if b107 = true then
  (
  chk (true = true → 0 ≤ i106 ∧ i106 < (n104 : Int)) <|
  atP (adP s104) true fun a109 =>
  gB (ld1 h (Ad.add a109 (Int.toNat i106 * 1))) true fun b110 =>
  if b110 = true then
   (
   (C 79 [(.ptr p0), (.int .i64 i9), (.int .i64 i106)] h).bind fun r115 =>
   gT 0 r115.1 true fun u115 =>
   J41x43 M C p0 i1 s5 n5 i9 i10 s11 n11 s38 n38 i39 i40 s104 n104 i105 i106 r115.2 Q
   )
  else
   (
   J41x43 M C p0 i1 s5 n5 i9 i10 s11 n11 s38 n38 i39 i40 s104 n104 i105 i106 h Q
   )
  )
 else
  (
  Q (.exit 4) (S41xe4 p0 i1 s5 n5 i9 i10 s11 n11 s38 n38 i39 i40 h)
  )
 ) := by kernel_rfl
theorem L41x33xeq : TEq (L41x33 mk0 C p0 i1 s5 n5 i9 i10 s11 n11 s38 n38 i39 i40 s104 n104 i105 i106 h Q) (L41x33xaux mk0 C p0 i1 s5 n5 i9 i10 s11 n11 s38 n38 i39 i40 s104 n104 i105 i106 h Q) := loop_te (by kernel_rfl)
theorem J41x43xaux : (forceK tk (vp p0::vi i1::rep 3 (vl s5 n5::rep 3 (vi i9::vi i10::vl s11 n11::rep 26 (vl s38 n38::vi i39::vi i40::rep 63 (vl s104 n104::vi i105::vi i106::rep 112 []))))) fun e => (blockQ 5 (seqQ (evalE M C k41x39) (seqQ (evalE M C k41x38) (roundQ M C k41x33 141976867225561692969554904354339 1924145352227 Q)))) .normal ⟨e, h⟩) = (
 letK (IntKind.wrap .i64 (i106 + 1)) fun i116 =>
 L41x33 M C p0 i1 s5 n5 i9 i10 s11 n11 s38 n38 i39 i40 s104 n104 i105 i116 h Q
 ) := by kernel_rfl
theorem J41x43xeq : TEq (J41x43 mk0 C p0 i1 s5 n5 i9 i10 s11 n11 s38 n38 i39 i40 s104 n104 i105 i106 h Q) (J41x43xaux mk0 C p0 i1 s5 n5 i9 i10 s11 n11 s38 n38 i39 i40 s104 n104 i105 i106 h Q) := join_te
theorem X41x16xe2 : Q41x16 M C (.exit 2) (S41xe2 s5 n5 h) = (
 some ((.sl s5 n5), h)
 ) := by kernel_rfl
theorem X41x33xe4 (p0 : Option Ad) (i1 : Int) (s5 : SA) (n5 : Nat) (i9 i10 : Int) (s11 : SA) (n11 : Nat) (s38 : SA) (n38 : Nat) (i39 i40 : Int) (h : Heap) (Q : Kont R) : Q41x33 M C Q (.exit 4) (S41xe4 p0 i1 s5 n5 i9 i10 s11 n11 s38 n38 i39 i40 h) = (
 (C 81 [(.ptr p0), (.int .i64 i9), (.int .i64 i1)] h).bind fun r121 =>
 gT 2 r121.1 true fun u121 =>
 gI .i64 (some (List.getD u121 0 .opq)) true fun i121x0 =>
 gI .i64 (some (List.getD u121 1 .opq)) true fun i121x1 =>
 letK (decide (i1 ≤ i121x1)) fun b126 =>
 atP p0 b126 fun a129 =>
 atP (some a129) b126 fun a130 =>
 atP (some (Ad.add a130 1)) b126 fun a131 =>
 gL (ld1 r121.2 a131) b126 fun s131 n131 =>
 chk (b126 = true → 0 ≤ i9 ∧ i9 < (n131 : Int)) <|
 atP (adP s131) b126 fun a133 =>
 atP (some (Ad.add a133 (Int.toNat i9 * 1))) b126 fun a134 =>
 gB (ld1 r121.2 a134) b126 fun b134 =>
 letK (if b126 = true then (!b134) else false) fun b136 =>
 if b136 = true then
  (
  atP p0 true fun a138 =>
  gL (ld1 r121.2 (Ad.add a138 0)) true fun s140 n140 =>
  chk (true = true → 0 ≤ i9 ∧ i9 < (n140 : Int)) <|
  atP (adP s140) true fun a142 =>
  gL (ld1 r121.2 (Ad.add a142 (Int.toNat i9 * 1))) true fun s143 n143 =>
  L41x51 M C p0 i1 s5 n5 i9 s11 n11 s38 n38 i39 i40 s143 n143 (n143 : Int) 0 r121.2 (Q41x51 M C Q)
  )
 else
  (
  atP p0 true fun a178 =>
  gL (ld1 r121.2 (Ad.add a178 0)) true fun s180 n180 =>
  chk (true = true → 0 ≤ i10 ∧ i10 < (n180 : Int)) <|
  atP (adP s180) true fun a182 =>
  gL (ld1 r121.2 (Ad.add a182 (Int.toNat i10 * 1))) true fun s183 n183 =>
  L41x66 M C p0 i1 s5 n5 i9 i10 s38 n38 i39 i40 (n183 : Int) 0 r121.2 (Q41x66 M C Q)
  )
 ) := by kernel_rfl
theorem L41x51xaux : rnd M C k41x51 78052608194857180995375013954271189416282659 1924145348643 ⟨vp p0::vi i1::rep 3 (vl s5 n5::rep 3 (vi i9::.any::vl s11 n11::rep 26 (vl s38 n38::vi i39::vi i40::rep 102 (vl s143 n143::vi i144::vi i145::rep 73 [])))), h⟩ Q = (
 letK (decide (i145 < i144)) fun b146 =>
 if b146 = true then
  (
  chk (true = true → 0 ≤ i145 ∧ i145 < (n143 : Int)) <|
  atP (adP s143) true fun a148 =>
  gB (ld1 h (Ad.add a148 (Int.toNat i145 * 1))) true fun b149 =>
  chk (b149 = true → 0 ≤ i145 ∧ i145 < (n11 : Int)) <|
  atP (adP s11) b149 fun a154 =>
  atP (some (Ad.add a154 (Int.toNat i145 * 1))) b149 fun a155 =>
  gB (ld1 h a155) b149 fun b155 =>
  letK (if b149 = true then (!b155) else false) fun b157 =>
  if b157 = true then
   (
   atP p0 true fun a159 =>
   gL (ld1 h (Ad.add a159 0)) true fun s161 n161 =>
   chk (true = true → 0 ≤ i9 ∧ i9 < (n161 : Int)) <|
   atP (adP s161) true fun a163 =>
   gL (ld1 h (Ad.add a163 (Int.toNat i9 * 1))) true fun s164 n164 =>
   atP p0 true fun a167 =>
   gL (ld1 h (Ad.add a167 0)) true fun s169 n169 =>
   chk (true = true → 0 ≤ i145 ∧ i145 < (n169 : Int)) <|
   atP (adP s169) true fun a171 =>
   gL (ld1 h (Ad.add a171 (Int.toNat i145 * 1))) true fun s172 n172 =>
   chk (true = true → 0 ≤ i145 ∧ i145 < (n164 : Int)) <|
   atP (adP s164) true fun a174 =>
   (st1 h (Ad.add a174 (Int.toNat i145 * 1)) (.bool false)).bind fun h_2 =>
   chk (true = true → 0 ≤ i9 ∧ i9 < (n172 : Int)) <|
   atP (adP s172) true fun a175 =>
   (st1 h_2 (Ad.add a175 (Int.toNat i9 * 1)) (.bool false)).bind fun h_3 =>
   J41x61 M C p0 i1 s5 n5 i9 s11 n11 s38 n38 i39 i40 s143 n143 i144 i145 h_3 Q
   )
  else
   (
   J41x61 M C p0 i1 s5 n5 i9 s11 n11 s38 n38 i39 i40 s143 n143 i144 i145 h Q
   )
  )
 else
  (
  Q (.exit 6) (S41xe6 p0 i1 s5 n5 s38 n38 i39 i40 h)
  )
 ) := by kernel_rfl
theorem L41x51xeq : TEq (L41x51 mk0 C p0 i1 s5 n5 i9 s11 n11 s38 n38 i39 i40 s143 n143 i144 i145 h Q) (L41x51xaux mk0 C p0 i1 s5 n5 i9 s11 n11 s38 n38 i39 i40 s143 n143 i144 i145 h Q) := loop_te (by kernel_rfl)
theorem L41x66xaux : rnd M C k41x66 73559785961562665201200657303214840813699479788958254627 1924145350179 ⟨vp p0::vi i1::rep 3 (vl s5 n5::rep 3 (vi i9::vi i10::rep 27 (vl s38 n38::vi i39::vi i40::rep 143 (vi i184::vi i185::rep 33 [])))), h⟩ Q = (
 letK (decide (i185 < i184)) fun b186 =>
 if b186 = true then
  (
  atP p0 true fun a189 =>
  gL (ld1 h (Ad.add a189 0)) true fun s191 n191 =>
  chk (true = true → 0 ≤ i10 ∧ i10 < (n191 : Int)) <|
  atP (adP s191) true fun a193 =>
  gL (ld1 h (Ad.add a193 (Int.toNat i10 * 1))) true fun s194 n194 =>
  atP p0 true fun a197 =>
  gL (ld1 h (Ad.add a197 0)) true fun s199 n199 =>
  chk (true = true → 0 ≤ i185 ∧ i185 < (n199 : Int)) <|
  atP (adP s199) true fun a201 =>
  gL (ld1 h (Ad.add a201 (Int.toNat i185 * 1))) true fun s202 n202 =>
  chk (true = true → 0 ≤ i185 ∧ i185 < (n194 : Int)) <|
  atP (adP s194) true fun a204 =>
  (st1 h (Ad.add a204 (Int.toNat i185 * 1)) (.bool false)).bind fun h_2 =>
  chk (true = true → 0 ≤ i10 ∧ i10 < (n202 : Int)) <|
  atP (adP s202) true fun a205 =>
  (st1 h_2 (Ad.add a205 (Int.toNat i10 * 1)) (.bool false)).bind fun h_3 =>
  letK (IntKind.wrap .i64 (i185 + 1)) fun i206 =>
  L41x66 M C p0 i1 s5 n5 i9 i10 s38 n38 i39 i40 i184 i206 h_3 Q
  )
 else
  (
  Q (.exit 8) (S41xe8 p0 i1 s5 n5 i9 i10 s38 n38 i39 i40 h)
  )
 ) := by kernel_rfl
theorem L41x66xeq : TEq (L41x66 mk0 C p0 i1 s5 n5 i9 i10 s38 n38 i39 i40 i184 i185 h Q) (L41x66xaux mk0 C p0 i1 s5 n5 i9 i10 s38 n38 i39 i40 i184 i185 h Q) := loop_te (by kernel_rfl)
theorem J41x61xaux : (forceK tk (vp p0::vi i1::rep 3 (vl s5 n5::rep 3 (vi i9::.any::vl s11 n11::rep 26 (vl s38 n38::vi i39::vi i40::rep 102 (vl s143 n143::vi i144::vi i145::rep 73 []))))) fun e => (blockQ 7 (seqQ (evalE M C k41x57) (seqQ (evalE M C k41x56) (roundQ M C k41x51 78052608194857180995375013954271189416282659 1924145348643 Q)))) .normal ⟨e, h⟩) = (
 letK (IntKind.wrap .i64 (i145 + 1)) fun i176 =>
 L41x51 M C p0 i1 s5 n5 i9 s11 n11 s38 n38 i39 i40 s143 n143 i144 i176 h Q
 ) := by kernel_rfl
theorem J41x61xeq : TEq (J41x61 mk0 C p0 i1 s5 n5 i9 s11 n11 s38 n38 i39 i40 s143 n143 i144 i145 h Q) (J41x61xaux mk0 C p0 i1 s5 n5 i9 s11 n11 s38 n38 i39 i40 s143 n143 i144 i145 h Q) := join_te
theorem X41x51xe6 : Q41x51 M C Q (.exit 6) (S41xe6 p0 i1 s5 n5 s38 n38 i39 i40 h) = (
 J41x75 M C p0 i1 s5 n5 s38 n38 i39 i40 h Q
 ) := by kernel_rfl
theorem X41x66xe8 : Q41x66 M C Q (.exit 8) (S41xe8 p0 i1 s5 n5 i9 i10 s38 n38 i39 i40 h) = (
 chk (true = true → 0 ≤ i10 ∧ i10 < (n5 : Int)) <|
 atP (adP s5) true fun a210 =>
 (st1 h (Ad.add a210 (Int.toNat i10 * 1)) (.int .i64 i9)).bind fun h_2 =>
 atP p0 true fun a212 =>
 gL (ld1 h_2 (Ad.add a212 2)) true fun s214 n214 =>
 chk (true = true → 0 ≤ i10 ∧ i10 < (n214 : Int)) <|
 atP (adP s214) true fun a216 =>
 (st1 h_2 (Ad.add a216 (Int.toNat i10 * 1)) (.bool false)).bind fun h_3 =>
 J41x75 M C p0 i1 s5 n5 s38 n38 i39 i40 h_3 Q
 ) := by kernel_rfl
end
noncomputable section
variable (p0 : Option Ad) (i1 : Int) (s5 : SA) (n5 : Nat) (s6 : SA) (n6 : Nat) (i7 i9 : Int) (s13 : SA) (n13 : Nat) (i14 i35 i36 : Int) (s69 : SA) (n69 : Nat) (i70 i71 : Int) (s76 : SA) (n76 : Nat) (i77 i78 i98 i99 : Int) (s101 : SA) (n101 : Nat) (i102 i103 : Int) (s145 : SA) (n145 : Nat) (i146 i147 : Int) (h : Heap) (Q : Kont R)
def S42xe0 : St := ⟨vp p0::vi i1::rep 3 (vl s5 n5::vl s6 n6::vi i7::rep 156 []), h⟩
def S42xe2 : St := ⟨vp p0::vi i1::rep 3 (vl s5 n5::vl s6 n6::vi i7::rep 156 []), h⟩
def S42xe4 : St := ⟨vp p0::vi i1::rep 3 (vl s5 n5::vl s6 n6::vi i7::rep 61 (vl s69 n69::vi i70::vi i71::rep 92 [])), h⟩
def S42xe6 : St := ⟨rep 13 (vl s13 n13::rep 150 []), h⟩
def S42xe8 : St := ⟨vp p0::vi i1::rep 3 (vl s5 n5::vl s6 n6::rep 6 (vl s13 n13::vi i14::rep 83 (vi i98::vi i99::rep 64 []))), h⟩
def S42xe10 : St := ⟨vp p0::vi i1::rep 3 (vl s5 n5::vl s6 n6::rep 6 (vl s13 n13::rep 84 (vi i98::vi i99::rep 64 []))), h⟩
def Q42x7 (M : Mk) (C : Cal) : Kont (AV × Heap) := (blockQ 0 (seqQ (evalE M C k42x6) (seqQ (evalE M C k42x4) (endQ [.tmp 4]))))
def L42x7 : Option R := loopE (evalE M C k42x7) 103079215331 227 ⟨vp p0::vi i1::rep 3 (vl s5 n5::vl s6 n6::vi i7::rep 27 (vi i35::vi i36::rep 127 [])), h⟩ Q
def J42x18 : Option R := M R (blockQ 1 (seqQ (evalE M C k42x13) (seqQ (evalE M C k42x12) (roundQ M C k42x7 103079215331 227 Q)))) (vp p0::vi i1::rep 3 (vl s5 n5::vl s6 n6::vi i7::rep 27 (vi i35::vi i36::rep 127 []))) h
def Q42x22 (M : Mk) (C : Cal) : Kont (AV × Heap) := (blockQ 2 (seqQ (evalE M C k42x21) (seqQ (evalE M C k42x19) (endQ [.tmp 4]))))
def L42x22 : Option R := loopE (evalE M C k42x22) 4132070672510939562211 227 ⟨vp p0::vi i1::rep 3 (vl s5 n5::vl s6 n6::vi i7::rep 61 (vl s69 n69::vi i70::vi i71::rep 92 [])), h⟩ Q
def Q42x32 : Kont R := (blockQ 4 (seqQ (evalE M C k42x31) (blockQ 3 (seqQ (evalE M C k42x28) (seqQ (evalE M C k42x27) (roundQ M C k42x22 4132070672510939562211 227 Q))))))
def L42x32 : Option R := loopE (evalE M C k42x32) 533037116753911203496675 4132070672510939562211 ⟨vp p0::vi i1::rep 3 (vl s5 n5::vl s6 n6::vi i7::.any::vi i9::rep 59 (vl s69 n69::vi i70::vi i71::rep 4 (vl s76 n76::vi i77::vi i78::rep 85 []))), h⟩ Q
def J42x42 : Option R := M R (blockQ 5 (seqQ (evalE M C k42x38) (seqQ (evalE M C k42x37) (roundQ M C k42x32 533037116753911203496675 4132070672510939562211 Q)))) (vp p0::vi i1::rep 3 (vl s5 n5::vl s6 n6::vi i7::.any::vi i9::rep 59 (vl s69 n69::vi i70::vi i71::rep 4 (vl s76 n76::vi i77::vi i78::rep 85 [])))) h
def Q42x47 (M : Mk) (C : Cal) : Kont (AV × Heap) := (blockQ 6 (seqQ (evalE M C k42x46) (seqQ (evalE M C k42x44) (endQ [.tmp 4]))))
def L42x47 : Option R := loopE (evalE M C k42x47) 950737950171172051122527412323 8192 ⟨vp p0::vi i1::rep 3 (vl s5 n5::vl s6 n6::rep 6 (vl s13 n13::rep 84 (vi i98::vi i99::rep 64 []))), h⟩ Q
def Q42x58 : Kont R := (blockQ 8 (seqQ (evalE M C k42x57) (seqQ (evalE M C k42x55) (blockQ 7 (seqQ (evalE M C k42x53) (seqQ (evalE M C k42x52) (roundQ M C k42x47 950737950171172051122527412323 8192 Q)))))))
def L42x58 : Option R := loopE (evalE M C k42x58) 18697846353366383672076372303971 950737950171172051122527428707 ⟨vp p0::vi i1::rep 3 (vl s5 n5::vl s6 n6::rep 6 (vl s13 n13::vi i14::rep 83 (vi i98::vi i99::.any::vl s101 n101::vi i102::vi i103::rep 60 []))), h⟩ Q
def J42x78 : Option R := M R (seqQ (evalE M C k42x63) (roundQ M C k42x58 18697846353366383672076372303971 950737950171172051122527428707 Q)) (vp p0::vi i1::rep 3 (vl s5 n5::vl s6 n6::rep 6 (vl s13 n13::vi i14::rep 83 (vi i98::vi i99::.any::vl s101 n101::vi i102::vi i103::rep 60 [])))) h
def J42x77 : Option R := M R (blockQ 9 (seqQ (evalE M C k42x64) (seqQ (evalE M C k42x63) (roundQ M C k42x58 18697846353366383672076372303971 950737950171172051122527428707 Q)))) (vp p0::vi i1::rep 3 (vl s5 n5::vl s6 n6::rep 6 (vl s13 n13::vi i14::rep 83 (vi i98::vi i99::.any::vl s101 n101::vi i102::vi i103::rep 60 [])))) h
def J42x79 : Option R := M R (seqQ (evalE M C k42x55) (blockQ 7 (seqQ (evalE M C k42x53) (seqQ (evalE M C k42x52) (roundQ M C k42x47 950737950171172051122527412323 8192 Q))))) (vp p0::vi i1::rep 3 (vl s5 n5::vl s6 n6::rep 6 (vl s13 n13::vi i14::rep 83 (vi i98::vi i99::rep 64 [])))) h
def Q42x84 : Kont R := (blockQ 10 (seqQ (evalE M C k42x83) (blockQ 7 (seqQ (evalE M C k42x53) (seqQ (evalE M C k42x52) (roundQ M C k42x47 950737950171172051122527412323 8192 Q))))))
def L42x84 : Option R := loopE (evalE M C k42x84) 312210432779429674719450226989128183611138147 950737950171172051122527412323 ⟨vp p0::vi i1::rep 3 (vl s5 n5::vl s6 n6::rep 6 (vl s13 n13::rep 84 (vi i98::vi i99::rep 45 (vl s145 n145::vi i146::vi i147::rep 16 [])))), h⟩ Q
def J42x94 : Option R := M R (blockQ 11 (seqQ (evalE M C k42x90) (seqQ (evalE M C k42x89) (roundQ M C k42x84 312210432779429674719450226989128183611138147 950737950171172051122527412323 Q)))) (vp p0::vi i1::rep 3 (vl s5 n5::vl s6 n6::rep 6 (vl s13 n13::rep 84 (vi i98::vi i99::rep 45 (vl s145 n145::vi i146::vi i147::rep 16 []))))) h
theorem r42 : runE M C c42 [(.ptr p0), (.int .i64 i1)] h = (
 atP p0 true fun a20 =>
 gL (ld1 h (Ad.add a20 0)) true fun s22 n22 =>
 chk ((0 : Int) ≤ (n22 : Int) ∧ ((n22 : Int) : Int) ≤ (n22 : Int) ∧ (n22 : Int) * ((1 : Nat) : Int) ≤ 70368744177664) <|
 newK h (.cells (repl (Int.toNat (n22 : Int)) [(.bool false)]) (.grow 1) 0) fun h_2 =>
 letK (Int.toNat (n22 : Int)) fun n24 =>
 atP p0 true fun a26 =>
 gL (ld1 h_2 (Ad.add a26 0)) true fun s28 n28 =>
 chk ((0 : Int) ≤ (n28 : Int) ∧ ((n28 : Int) : Int) ≤ (n28 : Int) ∧ (n28 : Int) * ((8 : Nat) : Int) ≤ 70368744177664) <|
 newK h_2 (.cells (repl (Int.toNat (n28 : Int)) [(.int .i64 0)]) (.grow 1) 0) fun h_3 =>
 letK (Int.toNat (n28 : Int)) fun n30 =>
 atP p0 true fun a32 =>
 gL (ld1 h_3 (Ad.add a32 0)) true fun s34 n34 =>
 L42x7 M C p0 i1 (.pos ⟨List.length h, 0, 0⟩) n24 (.pos ⟨List.length h_2, 0, 0⟩) n30 0 (n34 : Int) 0 h_3 (Q42x7 M C)
 ) := by kernel_rfl
theorem e42 : TEq (E 42 [(.ptr p0), (.int .i64 i1)] h) (r42 mk0 E p0 i1 h) := (EV_eq (P := Try.prog) (T := T0) rfl cf42 _ h).trans (r42 mk0 E p0 i1 h)
theorem L42x7xaux : rnd M C k42x7 103079215331 227 ⟨vp p0::vi i1::rep 3 (vl s5 n5::vl s6 n6::vi i7::rep 27 (vi i35::vi i36::rep 127 [])), h⟩ Q = (
 letK (decide (i36 < i35)) fun b37 =>
 if b37 = true then
  (
  atP p0 true fun a42 =>
  gL (ld1 h (Ad.add a42 2)) true fun s44 n44 =>
  chk (true = true → 0 ≤ i36 ∧ i36 < (n44 : Int)) <|
  atP (adP s44) true fun a46 =>
  gB (ld1 h (Ad.add a46 (Int.toNat i36 * 1))) true fun b47 =>
  atP p0 b47 fun a50 =>
  atP (some a50) b47 fun a51 =>
  atP (some (Ad.add a51 1)) b47 fun a52 =>
  gL (ld1 h a52) b47 fun s52 n52 =>
  chk (b47 = true → 0 ≤ i36 ∧ i36 < (n52 : Int)) <|
  atP (adP s52) b47 fun a54 =>
  atP (some (Ad.add a54 (Int.toNat i36 * 1))) b47 fun a55 =>
  gB (ld1 h a55) b47 fun b55 =>
  letK (if b47 = true then (!b55) else false) fun b57 =>
  chk (true = true → 0 ≤ i36 ∧ i36 < (n5 : Int)) <|
  atP (adP s5) true fun a58 =>
  (st1 h (Ad.add a58 (Int.toNat i36 * 1)) (.bool b57)).bind fun h_2 =>
  chk (true = true → 0 ≤ i36 ∧ i36 < (n5 : Int)) <|
  atP (adP s5) true fun a61 =>
  gB (ld1 h_2 (Ad.add a61 (Int.toNat i36 * 1))) true fun b62 =>
  if b62 = true then
   (
   letK (IntKind.wrap .i64 (i7 + 1)) fun i64 =>
   J42x18 M C p0 i1 s5 n5 s6 n6 i64 i35 i36 h_2 Q
   )
  else
   (
   J42x18 M C p0 i1 s5 n5 s6 n6 i7 i35 i36 h_2 Q
   )
  )
 else
  (
  Q (.exit 0) (S42xe0 p0 i1 s5 n5 s6 n6 i7 h)
  )
 ) := by kernel_rfl
theorem L42x7xeq : TEq (L42x7 mk0 C p0 i1 s5 n5 s6 n6 i7 i35 i36 h Q) (L42x7xaux mk0 C p0 i1 s5 n5 s6 n6 i7 i35 i36 h Q) := loop_te (by kernel_rfl)
theorem J42x18xaux : (forceK tk (vp p0::vi i1::rep 3 (vl s5 n5::vl s6 n6::vi i7::rep 27 (vi i35::vi i36::rep 127 []))) fun e => (blockQ 1 (seqQ (evalE M C k42x13) (seqQ (evalE M C k42x12) (roundQ M C k42x7 103079215331 227 Q)))) .normal ⟨e, h⟩) = (
 letK (IntKind.wrap .i64 (i36 + 1)) fun i65 =>
 L42x7 M C p0 i1 s5 n5 s6 n6 i7 i35 i65 h Q
 ) := by kernel_rfl
theorem J42x18xeq : TEq (J42x18 mk0 C p0 i1 s5 n5 s6 n6 i7 i35 i36 h Q) (J42x18xaux mk0 C p0 i1 s5 n5 s6 n6 i7 i35 i36 h Q) := join_te
theorem X42x7xe0 (p0 : Option Ad) (i1 : Int) (s5 : SA) (n5 : Nat) (s6 : SA) (n6 : Nat) (i7 : Int) (h : Heap) : Q42x7 M C (.exit 0) (S42xe0 p0 i1 s5 n5 s6 n6 i7 h) = (
 atP p0 true fun a67 =>
 gL (ld1 h (Ad.add a67 0)) true fun s69 n69 =>
 L42x22 M C p0 i1 s5 n5 s6 n6 i7 s69 n69 (n69 : Int) 0 h (Q42x22 M C)
 ) := by kernel_rfl
theorem L42x22xaux : rnd M C k42x22 4132070672510939562211 227 ⟨vp p0::vi i1::rep 3 (vl s5 n5::vl s6 n6::vi i7::rep 61 (vl s69 n69::vi i70::vi i71::rep 92 [])), h⟩ Q = (
 letK (decide (i71 < i70)) fun b72 =>
 if b72 = true then
  (
  chk (true = true → 0 ≤ i71 ∧ i71 < (n69 : Int)) <|
  atP (adP s69) true fun a74 =>
  gL (ld1 h (Ad.add a74 (Int.toNat i71 * 1))) true fun s75 n75 =>
  L42x32 M C p0 i1 s5 n5 s6 n6 i7 i71 s69 n69 i70 i71 s75 n75 (n75 : Int) 0 h (Q42x32 M C Q)
  )
 else
  (
  Q (.exit 2) (S42xe2 p0 i1 s5 n5 s6 n6 i7 h)
  )
 ) := by kernel_rfl
theorem L42x22xeq : TEq (L42x22 mk0 C p0 i1 s5 n5 s6 n6 i7 s69 n69 i70 i71 h Q) (L42x22xaux mk0 C p0 i1 s5 n5 s6 n6 i7 s69 n69 i70 i71 h Q) := loop_te (by kernel_rfl)
theorem L42x32xaux : rnd M C k42x32 533037116753911203496675 4132070672510939562211 ⟨vp p0::vi i1::rep 3 (vl s5 n5::vl s6 n6::vi i7::.any::vi i9::rep 59 (vl s69 n69::vi i70::vi i71::rep 4 (vl s76 n76::vi i77::vi i78::rep 85 []))), h⟩ Q = (
 letK (decide (i78 < i77)) fun b79 =>
 if b79 = true then
  (
  chk (true = true → 0 ≤ i78 ∧ i78 < (n76 : Int)) <|
  atP (adP s76) true fun a81 =>
  gB (ld1 h (Ad.add a81 (Int.toNat i78 * 1))) true fun b82 =>
  chk (b82 = true → 0 ≤ i78 ∧ i78 < (n5 : Int)) <|
  atP (adP s5) b82 fun a87 =>
  atP (some (Ad.add a87 (Int.toNat i78 * 1))) b82 fun a88 =>
  gB (ld1 h a88) b82 fun b88 =>
  letK (if b82 = true then b88 else false) fun b89 =>
  if b89 = true then
   (
   chk (true = true → 0 ≤ i9 ∧ i9 < (n6 : Int)) <|
   atP (adP s6) true fun a92 =>
   gI .i64 (ld1 h (Ad.add a92 (Int.toNat i9 * 1))) true fun i93 =>
   letK (IntKind.wrap .i64 (i93 + 1)) fun i94 =>
   chk (true = true → 0 ≤ i9 ∧ i9 < (n6 : Int)) <|
   atP (adP s6) true fun a95 =>
   (st1 h (Ad.add a95 (Int.toNat i9 * 1)) (.int .i64 i94)).bind fun h_2 =>
   J42x42 M C p0 i1 s5 n5 s6 n6 i7 i9 s69 n69 i70 i71 s76 n76 i77 i78 h_2 Q
   )
  else
   (
   J42x42 M C p0 i1 s5 n5 s6 n6 i7 i9 s69 n69 i70 i71 s76 n76 i77 i78 h Q
   )
  )
 else
  (
  Q (.exit 4) (S42xe4 p0 i1 s5 n5 s6 n6 i7 s69 n69 i70 i71 h)
  )
 ) := by kernel_rfl
theorem L42x32xeq : TEq (L42x32 mk0 C p0 i1 s5 n5 s6 n6 i7 i9 s69 n69 i70 i71 s76 n76 i77 i78 h Q) (L42x32xaux mk0 C p0 i1 s5 n5 s6 n6 i7 i9 s69 n69 i70 i71 s76 n76 i77 i78 h Q) := loop_te (by kernel_rfl)
theorem J42x42xaux : (forceK tk (vp p0::vi i1::rep 3 (vl s5 n5::vl s6 n6::vi i7::.any::vi i9::rep 59 (vl s69 n69::vi i70::vi i71::rep 4 (vl s76 n76::vi i77::vi i78::rep 85 [])))) fun e => (blockQ 5 (seqQ (evalE M C k42x38) (seqQ (evalE M C k42x37) (roundQ M C k42x32 533037116753911203496675 4132070672510939562211 Q)))) .normal ⟨e, h⟩) = (
 letK (IntKind.wrap .i64 (i78 + 1)) fun i96 =>
 L42x32 M C p0 i1 s5 n5 s6 n6 i7 i9 s69 n69 i70 i71 s76 n76 i77 i96 h Q
 ) := by kernel_rfl
theorem J42x42xeq : TEq (J42x42 mk0 C p0 i1 s5 n5 s6 n6 i7 i9 s69 n69 i70 i71 s76 n76 i77 i78 h Q) (J42x42xaux mk0 C p0 i1 s5 n5 s6 n6 i7 i9 s69 n69 i70 i71 s76 n76 i77 i78 h Q) := join_te
theorem X42x22xe2 : Q42x22 M C (.exit 2) (S42xe2 p0 i1 s5 n5 s6 n6 i7 h) = (
 L42x47 M C p0 i1 s5 n5 s6 n6 .nil 0 i7 0 h (Q42x47 M C)
 ) := by kernel_rfl
theorem L42x47xaux : rnd M C k42x47 950737950171172051122527412323 8192 ⟨vp p0::vi i1::rep 3 (vl s5 n5::vl s6 n6::rep 6 (vl s13 n13::rep 84 (vi i98::vi i99::rep 64 []))), h⟩ Q = (
 letK (decide (i99 < i98)) fun b100 =>
 if b100 = true then
  (
  L42x58 M C p0 i1 s5 n5 s6 n6 s13 n13 (-1) i98 i99 s5 n5 (n5 : Int) 0 h (Q42x58 M C Q)
  )
 else
  (
  Q (.exit 6) (S42xe6 s13 n13 h)
  )
 ) := by kernel_rfl
theorem L42x47xeq : TEq (L42x47 mk0 C p0 i1 s5 n5 s6 n6 s13 n13 i98 i99 h Q) (L42x47xaux mk0 C p0 i1 s5 n5 s6 n6 s13 n13 i98 i99 h Q) := loop_te (by kernel_rfl)
theorem L42x58xaux : rnd M C k42x58 18697846353366383672076372303971 950737950171172051122527428707 ⟨vp p0::vi i1::rep 3 (vl s5 n5::vl s6 n6::rep 6 (vl s13 n13::vi i14::rep 83 (vi i98::vi i99::.any::vl s101 n101::vi i102::vi i103::rep 60 []))), h⟩ Q = (
 letK (decide (i103 < i102)) fun b104 =>
 if b104 = true then
  (
  chk (true = true → 0 ≤ i103 ∧ i103 < (n101 : Int)) <|
  atP (adP s101) true fun a106 =>
  gB (ld1 h (Ad.add a106 (Int.toNat i103 * 1))) true fun b107 =>
  if (!b107) = true then
   (
   J42x78 M C p0 i1 s5 n5 s6 n6 s13 n13 i14 i98 i99 s101 n101 i102 i103 h Q
   )
  else
   (
   chk (true = true → 0 ≤ i103 ∧ i103 < (n6 : Int)) <|
   atP (adP s6) true fun a112 =>
   gI .i64 (ld1 h (Ad.add a112 (Int.toNat i103 * 1))) true fun i113 =>
   letK (decide (i113 < i1)) fun b115 =>
   if b115 = true then
    (
    Q (.exit 8) (S42xe8 p0 i1 s5 n5 s6 n6 s13 n13 i103 i98 i99 h)
    )
   else
    (
    letK (decide (i14 < 0)) fun b118 =>
    chk ((!b118) = true → 0 ≤ i103 ∧ i103 < (n6 : Int)) <|
    atP (adP s6) (!b118) fun a122 =>
    atP (some (Ad.add a122 (Int.toNat i103 * 1))) (!b118) fun a123 =>
    gI .i64 (ld1 h a123) (!b118) fun i123 =>
    chk ((!b118) = true → 0 ≤ i14 ∧ i14 < (n6 : Int)) <|
    atP (adP s6) (!b118) fun a126 =>
    atP (some (Ad.add a126 (Int.toNat i14 * 1))) (!b118) fun a127 =>
    gI .i64 (ld1 h a127) (!b118) fun i127 =>
    letK (decide (i127 < i123)) fun b128 =>
    letK (if b118 = true then true else b128) fun b129 =>
    if b129 = true then
     (
     J42x77 M C p0 i1 s5 n5 s6 n6 s13 n13 i103 i98 i99 s101 n101 i102 i103 h Q
     )
    else
     (
     J42x77 M C p0 i1 s5 n5 s6 n6 s13 n13 i14 i98 i99 s101 n101 i102 i103 h Q
     )
    )
   )
  )
 else
  (
  Q (.exit 8) (S42xe8 p0 i1 s5 n5 s6 n6 s13 n13 i14 i98 i99 h)
  )
 ) := by kernel_rfl
theorem L42x58xeq : TEq (L42x58 mk0 C p0 i1 s5 n5 s6 n6 s13 n13 i14 i98 i99 s101 n101 i102 i103 h Q) (L42x58xaux mk0 C p0 i1 s5 n5 s6 n6 s13 n13 i14 i98 i99 s101 n101 i102 i103 h Q) := loop_te (by kernel_rfl)
theorem J42x78xaux : (forceK tk (vp p0::vi i1::rep 3 (vl s5 n5::vl s6 n6::rep 6 (vl s13 n13::vi i14::rep 83 (vi i98::vi i99::.any::vl s101 n101::vi i102::vi i103::rep 60 [])))) fun e => (seqQ (evalE M C k42x63) (roundQ M C k42x58 18697846353366383672076372303971 950737950171172051122527428707 Q)) .normal ⟨e, h⟩) = (
 letK (IntKind.wrap .i64 (i103 + 1)) fun i131 =>
 L42x58 M C p0 i1 s5 n5 s6 n6 s13 n13 i14 i98 i99 s101 n101 i102 i131 h Q
 ) := by kernel_rfl
theorem J42x78xeq : TEq (J42x78 mk0 C p0 i1 s5 n5 s6 n6 s13 n13 i14 i98 i99 s101 n101 i102 i103 h Q) (J42x78xaux mk0 C p0 i1 s5 n5 s6 n6 s13 n13 i14 i98 i99 s101 n101 i102 i103 h Q) := join_te
theorem J42x77xaux : (forceK tk (vp p0::vi i1::rep 3 (vl s5 n5::vl s6 n6::rep 6 (vl s13 n13::vi i14::rep 83 (vi i98::vi i99::.any::vl s101 n101::vi i102::vi i103::rep 60 [])))) fun e => (blockQ 9 (seqQ (evalE M C k42x64) (seqQ (evalE M C k42x63) (roundQ M C k42x58 18697846353366383672076372303971 950737950171172051122527428707 Q)))) .normal ⟨e, h⟩) = (
 J42x78 M C p0 i1 s5 n5 s6 n6 s13 n13 i14 i98 i99 s101 n101 i102 i103 h Q
 ) := by kernel_rfl
theorem J42x77xeq : TEq (J42x77 mk0 C p0 i1 s5 n5 s6 n6 s13 n13 i14 i98 i99 s101 n101 i102 i103 h Q) (J42x77xaux mk0 C p0 i1 s5 n5 s6 n6 s13 n13 i14 i98 i99 s101 n101 i102 i103 h Q) := join_te
theorem X42x32xe4 : Q42x32 M C Q (.exit 4) (S42xe4 p0 i1 s5 n5 s6 n6 i7 s69 n69 i70 i71 h) = (
 letK (IntKind.wrap .i64 (i71 + 1)) fun i97 =>
 L42x22 M C p0 i1 s5 n5 s6 n6 i7 s69 n69 i70 i97 h Q
 ) := by kernel_rfl
theorem X42x47xe6 : Q42x47 M C (.exit 6) (S42xe6 s13 n13 h) = (
 (C 82 [(.sl s13 n13)] h).bind fun r162 =>
 gT 0 r162.1 true fun u162 =>
 some ((.sl s13 n13), r162.2)
 ) := by kernel_rfl
theorem X42x58xe8 : Q42x58 M C Q (.exit 8) (S42xe8 p0 i1 s5 n5 s6 n6 s13 n13 i14 i98 i99 h) = (
 J42x79 M C p0 i1 s5 n5 s6 n6 s13 n13 i14 i98 i99 h Q
 ) := by kernel_rfl
theorem J42x79xaux (M : Mk) (C : Cal) (p0 : Option Ad) (i1 : Int) (s5 : SA) (n5 : Nat) (s6 : SA) (n6 : Nat) (s13 : SA) (n13 : Nat) (i14 i98 i99 : Int) (h : Heap) (Q : Kont R) : (forceK tk (vp p0::vi i1::rep 3 (vl s5 n5::vl s6 n6::rep 6 (vl s13 n13::vi i14::rep 83 (vi i98::vi i99::rep 64 [])))) fun e => (seqQ (evalE M C k42x55) (blockQ 7 (seqQ (evalE M C k42x53) (seqQ (evalE M C k42x52) (roundQ M C k42x47 950737950171172051122527412323 8192 Q))))) .normal ⟨e, h⟩) = (
 chk (true = true → 0 ≤ i14 ∧ i14 < (n5 : Int)) <|
 atP (adP s5) true fun a134 =>
 (st1 h (Ad.add a134 (Int.toNat i14 * 1)) (.bool false)).bind fun h_2 =>
 newK h_2 (.cells [(.int .i64 i14)] (.grow 1) 0) fun h_3 =>
 (ldSl h_3 (.pos ⟨List.length h_2, 0, 0⟩) (1 * 1)).bind fun y138 =>
 (apnd h_3 (.sl s13 n13) 1 8 y138 1).bind fun r138 =>
 gL (some r138.1) true fun s138 n138 =>
 atP p0 true fun a140 =>
 gL (ld1 r138.2 (Ad.add a140 0)) true fun s142 n142 =>
 chk (true = true → 0 ≤ i14 ∧ i14 < (n142 : Int)) <|
 atP (adP s142) true fun a144 =>
 gL (ld1 r138.2 (Ad.add a144 (Int.toNat i14 * 1))) true fun s145 n145 =>
 L42x84 M C p0 i1 s5 n5 s6 n6 s138 n138 i98 i99 s145 n145 (n145 : Int) 0 r138.2 (Q42x84 M C Q)
 ) := by kernel_rfl
theorem J42x79xeq : TEq (J42x79 mk0 C p0 i1 s5 n5 s6 n6 s13 n13 i14 i98 i99 h Q) (J42x79xaux mk0 C p0 i1 s5 n5 s6 n6 s13 n13 i14 i98 i99 h Q) := join_te
theorem L42x84xaux : rnd M C k42x84 312210432779429674719450226989128183611138147 950737950171172051122527412323 ⟨vp p0::vi i1::rep 3 (vl s5 n5::vl s6 n6::rep 6 (vl s13 n13::rep 84 (vi i98::vi i99::rep 45 (vl s145 n145::vi i146::vi i147::rep 16 [])))), h⟩ Q = (
 letK (decide (i147 < i146)) fun b148 =>
 if b148 = true then
  (
  chk (true = true → 0 ≤ i147 ∧ i147 < (n145 : Int)) <|
  atP (adP s145) true fun a150 =>
  gB (ld1 h (Ad.add a150 (Int.toNat i147 * 1))) true fun b151 =>
  if b151 = true then
   (
   chk (true = true → 0 ≤ i147 ∧ i147 < (n6 : Int)) <|
   atP (adP s6) true fun a155 =>
   gI .i64 (ld1 h (Ad.add a155 (Int.toNat i147 * 1))) true fun i156 =>
   letK (IntKind.wrap .i64 (i156 - 1)) fun i157 =>
   chk (true = true → 0 ≤ i147 ∧ i147 < (n6 : Int)) <|
   atP (adP s6) true fun a158 =>
   (st1 h (Ad.add a158 (Int.toNat i147 * 1)) (.int .i64 i157)).bind fun h_2 =>
   J42x94 M C p0 i1 s5 n5 s6 n6 s13 n13 i98 i99 s145 n145 i146 i147 h_2 Q
   )
  else
   (
   J42x94 M C p0 i1 s5 n5 s6 n6 s13 n13 i98 i99 s145 n145 i146 i147 h Q
   )
  )
 else
  (
  Q (.exit 10) (S42xe10 p0 i1 s5 n5 s6 n6 s13 n13 i98 i99 h)
  )
 ) := by kernel_rfl
theorem L42x84xeq : TEq (L42x84 mk0 C p0 i1 s5 n5 s6 n6 s13 n13 i98 i99 s145 n145 i146 i147 h Q) (L42x84xaux mk0 C p0 i1 s5 n5 s6 n6 s13 n13 i98 i99 s145 n145 i146 i147 h Q) := loop_te (by kernel_rfl)
theorem J42x94xaux : (forceK tk (vp p0::vi i1::rep 3 (vl s5 n5::vl s6 n6::rep 6 (vl s13 n13::rep 84 (vi i98::vi i99::rep 45 (vl s145 n145::vi i146::vi i147::rep 16 []))))) fun e => (blockQ 11 (seqQ (evalE M C k42x90) (seqQ (evalE M C k42x89) (roundQ M C k42x84 312210432779429674719450226989128183611138147 950737950171172051122527412323 Q)))) .normal ⟨e, h⟩) = (
 letK (IntKind.wrap .i64 (i147 + 1)) fun i159 =>
 L42x84 M C p0 i1 s5 n5 s6 n6 s13 n13 i98 i99 s145 n145 i146 i159 h Q
 ) := by kernel_rfl
theorem J42x94xeq : TEq (J42x94 mk0 C p0 i1 s5 n5 s6 n6 s13 n13 i98 i99 s145 n145 i146 i147 h Q) (J42x94xaux mk0 C p0 i1 s5 n5 s6 n6 s13 n13 i98 i99 s145 n145 i146 i147 h Q) := join_te
theorem X42x84xe10 : Q42x84 M C Q (.exit 10) (S42xe10 p0 i1 s5 n5 s6 n6 s13 n13 i98 i99 h) = (
 letK (IntKind.wrap .i64 (i99 + 1)) fun i160 =>
 L42x47 M C p0 i1 s5 n5 s6 n6 s13 n13 i98 i160 h Q
 ) := by kernel_rfl
end
noncomputable section
variable (s0 : SA) (n0 : Nat) (i2 i3 : Int) (h : Heap) (Q : Kont R)
def S82xe0 : St := ⟨(rep 28 []), h⟩
def Q82x2 (M : Mk) (C : Cal) : Kont (AV × Heap) := (blockQ 0 (seqQ (evalE M C k82x1) (endQ [])))
def L82x2 : Option R := loopE (evalE M C k82x2) 13 0 ⟨vl s0 n0::.any::vi i2::vi i3::rep 24 [], h⟩ Q
theorem r82 : runE M C c82 [(.sl s0 n0)] h = (
 letK (IntKind.wrap .i64 ((n0 : Int) - 1)) fun i6 =>
 L82x2 M C s0 n0 0 i6 h (Q82x2 M C)
 ) := by kernel_rfl
theorem e82 : TEq (E 82 [(.sl s0 n0)] h) (r82 mk0 E s0 n0 h) := (EV_eq (P := Try.prog) (T := T0) rfl cf82 _ h).trans (r82 mk0 E s0 n0 h)
theorem L82x2xaux : rnd M C k82x2 13 0 ⟨vl s0 n0::.any::vi i2::vi i3::rep 24 [], h⟩ Q = (
 letK (decide (i2 < i3)) fun b9 =>
 if b9 = true then
  (
  chk (true = true → 0 ≤ i3 ∧ i3 < (n0 : Int)) <|
  atP (adP s0) true fun a20 =>
  gI .i64 (ld1 h (Ad.add a20 (Int.toNat i3 * 1))) true fun i21 =>
  chk (true = true → 0 ≤ i2 ∧ i2 < (n0 : Int)) <|
  atP (adP s0) true fun a24 =>
  gI .i64 (ld1 h (Ad.add a24 (Int.toNat i2 * 1))) true fun i25 =>
  chk (true = true → 0 ≤ i2 ∧ i2 < (n0 : Int)) <|
  atP (adP s0) true fun a26 =>
  (st1 h (Ad.add a26 (Int.toNat i2 * 1)) (.int .i64 i21)).bind fun h_2 =>
  chk (true = true → 0 ≤ i3 ∧ i3 < (n0 : Int)) <|
  atP (adP s0) true fun a27 =>
  (st1 h_2 (Ad.add a27 (Int.toNat i3 * 1)) (.int .i64 i25)).bind fun h_3 =>
  letK (IntKind.wrap .i64 (i2 + 1)) fun i11 =>
  letK (IntKind.wrap .i64 (i3 - 1)) fun i13 =>
  L82x2 M C s0 n0 i11 i13 h_3 Q
  )
 else
  (
  Q (.exit 0) (S82xe0 h)
  )
 ) := by kernel_rfl
theorem L82x2xeq : TEq (L82x2 mk0 C s0 n0 i2 i3 h Q) (L82x2xaux mk0 C s0 n0 i2 i3 h Q) := loop_te (by kernel_rfl)
theorem X82x2xe0 : Q82x2 M C (.exit 0) (S82xe0 h) = (
 some (.tup [], h)
 ) := by kernel_rfl
end
noncomputable section
variable (i0x0 : Int) (s0x1 : SA) (n0x1 : Nat) (i0x2 : Int) (s0x3 : SA) (n0x3 : Nat) (i1 : Int) (s4x0 : SA) (n4x0 : Nat) (s4x1 : SA) (n4x1 : Nat) (i4x2 : Int) (p7 : Option Ad) (s8 : SA) (n8 : Nat) (s9x0 : SA) (n9x0 : Nat) (s9x1 : SA) (n9x1 : Nat) (i9x2 i43 i44 : Int) (s58 : SA) (n58 : Nat) (i59 i60 i80 i81 i121 i122 : Int) (h : Heap) (Q : Kont R)
def S14xe0 : St := ⟨(.any :: (vi i1 :: (.any :: .any :: (.box [(.sl s4x0 n4x0), (.sl s4x1 n4x1), (.int .i64 i4x2)] :: (.any :: .any :: (vp p7::vl s8 n8::.box [(.sl s9x0 n9x0), (.sl s9x1 n9x1), (.int .i64 i9x2)]::rep 139 [])))))), h⟩
def S14xe2 : St := ⟨(rep 4 (.box [(.sl s4x0 n4x0), (.sl s4x1 n4x1), (.int .i64 i4x2)] :: (.any :: .any :: (vp p7::vl s8 n8::.box [(.sl s9x0 n9x0), (.sl s9x1 n9x1), (.int .i64 i9x2)]::rep 139 [])))), h⟩
def S14xe4 : St := ⟨rep 4 (.box [(.sl s4x0 n4x0), (.sl s4x1 n4x1), (.int .i64 i4x2)]::rep 3 (vl s8 n8::.box [(.sl s9x0 n9x0), (.sl s9x1 n9x1), (.int .i64 i9x2)]::rep 139 [])), h⟩
def S14xe6 : St := ⟨rep 4 (.box [(.sl s4x0 n4x0), (.sl s4x1 n4x1), (.int .i64 i4x2)]::rep 4 (.box [(.sl s9x0 n9x0), (.sl s9x1 n9x1), (.int .i64 i9x2)]::rep 139 [])), h⟩
def Q14x18 (M : Mk) (C : Cal) : Kont (AV × Heap) := (blockQ 0 (seqQ (evalE M C k14x17) (seqQ (evalE M C k14x15) (endQ [.cell 4 (.agg [.sl, .sl, (.int .i64)]), .tmp 5]))))
def L14x18 : Option R := loopE (evalE M C k14x18) 26388279067538 914 ⟨(.any :: (vi i1 :: (.any :: .any :: (.box [(.sl s4x0 n4x0), (.sl s4x1 n4x1), (.int .i64 i4x2)] :: (.any :: .any :: (vp p7::vl s8 n8::.box [(.sl s9x0 n9x0), (.sl s9x1 n9x1), (.int .i64 i9x2)]::rep 33 (vi i43::vi i44::rep 104 []))))))), h⟩ Q
def Q14x29 (M : Mk) (C : Cal) : Kont (AV × Heap) := (blockQ 2 (seqQ (evalE M C k14x28) (seqQ (evalE M C k14x26) (endQ [.cell 4 (.agg [.sl, .sl, (.int .i64)]), .tmp 5]))))
def L14x29 : Option R := loopE (evalE M C k14x29) 2017612633061983122 912 ⟨(.any :: (vi i1 :: (.any :: .any :: (.box [(.sl s4x0 n4x0), (.sl s4x1 n4x1), (.int .i64 i4x2)] :: (.any :: .any :: (vp p7::vl s8 n8::.box [(.sl s9x0 n9x0), (.sl s9x1 n9x1), (.int .i64 i9x2)]::rep 48 (vl s58 n58::vi i59::vi i60::rep 88 []))))))), h⟩ Q
def J14x40 : Option R := M R (blockQ 3 (seqQ (evalE M C k14x35) (seqQ (evalE M C k14x34) (roundQ M C k14x29 2017612633061983122 912 Q)))) (.any :: (vi i1 :: (.any :: .any :: (.box [(.sl s4x0 n4x0), (.sl s4x1 n4x1), (.int .i64 i4x2)] :: (.any :: .any :: (vp p7::vl s8 n8::.box [(.sl s9x0 n9x0), (.sl s9x1 n9x1), (.int .i64 i9x2)]::rep 48 (vl s58 n58::vi i59::vi i60::rep 88 []))))))) h
def Q14x44 (M : Mk) (C : Cal) : Kont (AV × Heap) := (blockQ 4 (seqQ (evalE M C k14x43) (seqQ (evalE M C k14x41) (endQ [.cell 4 (.agg [.sl, .sl, (.int .i64)]), .tmp 5]))))
def L14x44 : Option R := loopE (evalE M C k14x44) 3626777458843887524119440 784 ⟨(rep 4 (.box [(.sl s4x0 n4x0), (.sl s4x1 n4x1), (.int .i64 i4x2)] :: (.any :: .any :: (vp p7::vl s8 n8::.box [(.sl s9x0 n9x0), (.sl s9x1 n9x1), (.int .i64 i9x2)]::rep 70 (vi i80::vi i81::rep 67 []))))), h⟩ Q
def J14x55 : Option R := M R (blockQ 5 (seqQ (evalE M C k14x50) (seqQ (evalE M C k14x49) (roundQ M C k14x44 3626777458843887524119440 784 Q)))) (rep 4 (.box [(.sl s4x0 n4x0), (.sl s4x1 n4x1), (.int .i64 i4x2)] :: (.any :: .any :: (vp p7::vl s8 n8::.box [(.sl s9x0 n9x0), (.sl s9x1 n9x1), (.int .i64 i9x2)]::rep 70 (vi i80::vi i81::rep 67 []))))) h
def Q14x59 (M : Mk) (C : Cal) : Kont (AV × Heap) := (blockQ 6 (seqQ (evalE M C k14x58) (seqQ (evalE M C k14x56) (endQ [.cell 4 (.agg [.sl, .sl, (.int .i64)]), .tmp 5]))))
def L14x59 : Option R := loopE (evalE M C k14x59) 7975367974709495237422842361682068240 528 ⟨rep 4 (.box [(.sl s4x0 n4x0), (.sl s4x1 n4x1), (.int .i64 i4x2)]::rep 3 (vl s8 n8::.box [(.sl s9x0 n9x0), (.sl s9x1 n9x1), (.int .i64 i9x2)]::rep 111 (vi i121::vi i122::rep 26 []))), h⟩ Q
theorem r14 : runE M C c14 [(.agg [(.int .i64 i0x0), (.sl s0x1 n0x1), (.int .i64 i0x2), (.sl s0x3 n0x3)]), (.int .i64 i1)] h = (
 (C 26 [(.agg [(.int .i64 i0x0), (.sl s0x1 n0x1), (.int .i64 i0x2), (.sl s0x3 n0x3)])] h).bind fun r17 =>
 gI .i64 (some r17.1) true fun i17 =>
 letK (!decide (i17 = 0)) fun b19 =>
 if b19 = true then
  (
  some (.tup [(.agg [(.sl .nil 0), (.sl .nil 0), (.int .i64 0)]), (.int .i64 i17)], r17.2)
  )
 else
  (
  letK (decide (i1 < 1)) fun b23 =>
  letK (decide ((10 : Int) < i1)) fun b26 =>
  letK (if b23 = true then true else b26) fun b27 =>
  if b27 = true then
   (
   some (.tup [(.agg [(.sl .nil 0), (.sl .nil 0), (.int .i64 0)]), (.int .i64 4)], r17.2)
   )
  else
   (
   (C 40 [(.agg [(.int .i64 i0x0), (.sl s0x1 n0x1), (.int .i64 i0x2), (.sl s0x3 n0x3)])] r17.2).bind fun r30 =>
   gP (some r30.1) true fun p30 =>
   (C 41 [(.ptr p30), (.int .i64 i1)] r30.2).bind fun r33 =>
   gL (some r33.1) true fun s33 n33 =>
   chk (0 ≤ i0x2 ∧ i0x2 ≤ i0x2 ∧ i0x2 * ((8 : Nat) : Int) ≤ 70368744177664) <|
   newK r33.2 (.cells (repl (Int.toNat i0x2) [(.int .i64 0)]) (.grow 1) 0) fun h_2 =>
   letK (Int.toNat i0x2) fun n36 =>
   chk (0 ≤ i0x2 ∧ i0x2 ≤ i0x2 ∧ i0x2 * ((8 : Nat) : Int) ≤ 70368744177664) <|
   newK h_2 (.cells (repl (Int.toNat i0x2) [(.int .i64 0)]) (.grow 1) 0) fun h_3 =>
   letK (Int.toNat i0x2) fun n39 =>
   L14x18 M C i1 .nil 0 .nil 0 0 p30 s33 n33 (.pos ⟨List.length r33.2, 0, 0⟩) n36 (.pos ⟨List.length h_2, 0, 0⟩) n39 0 (n36 : Int) 0 h_3 (Q14x18 M C)
   )
  )
 ) := by kernel_rfl
theorem e14 : TEq (E 14 [(.agg [(.int .i64 i0x0), (.sl s0x1 n0x1), (.int .i64 i0x2), (.sl s0x3 n0x3)]), (.int .i64 i1)] h) (r14 mk0 E i0x0 s0x1 n0x1 i0x2 s0x3 n0x3 i1 h) := (EV_eq (P := Try.prog) (T := T0) rfl cf14 _ h).trans (r14 mk0 E i0x0 s0x1 n0x1 i0x2 s0x3 n0x3 i1 h)
theorem L14x18xaux : rnd M C k14x18 26388279067538 914 ⟨(.any :: (vi i1 :: (.any :: .any :: (.box [(.sl s4x0 n4x0), (.sl s4x1 n4x1), (.int .i64 i4x2)] :: (.any :: .any :: (vp p7::vl s8 n8::.box [(.sl s9x0 n9x0), (.sl s9x1 n9x1), (.int .i64 i9x2)]::rep 33 (vi i43::vi i44::rep 104 []))))))), h⟩ Q = (
 letK (decide (i44 < i43)) fun b45 =>
 if b45 = true then
  (
  chk (true = true → 0 ≤ i44 ∧ i44 < (n9x0 : Int)) <|
  atP (adP s9x0) true fun a53 =>
  (st1 h (Ad.add a53 (Int.toNat i44 * 1)) (.int .i64 (-1))).bind fun h_2 =>
  chk (true = true → 0 ≤ i44 ∧ i44 < (n9x1 : Int)) <|
  atP (adP s9x1) true fun a54 =>
  (st1 h_2 (Ad.add a54 (Int.toNat i44 * 1)) (.int .i64 (-1))).bind fun h_3 =>
  letK (IntKind.wrap .i64 (i44 + 1)) fun i55 =>
  L14x18 M C i1 s4x0 n4x0 s4x1 n4x1 i4x2 p7 s8 n8 s9x0 n9x0 s9x1 n9x1 i9x2 i43 i55 h_3 Q
  )
 else
  (
  Q (.exit 0) (S14xe0 i1 s4x0 n4x0 s4x1 n4x1 i4x2 p7 s8 n8 s9x0 n9x0 s9x1 n9x1 i9x2 h)
  )
 ) := by kernel_rfl
theorem L14x18xeq : TEq (L14x18 mk0 C i1 s4x0 n4x0 s4x1 n4x1 i4x2 p7 s8 n8 s9x0 n9x0 s9x1 n9x1 i9x2 i43 i44 h Q) (L14x18xaux mk0 C i1 s4x0 n4x0 s4x1 n4x1 i4x2 p7 s8 n8 s9x0 n9x0 s9x1 n9x1 i9x2 i43 i44 h Q) := loop_te (by kernel_rfl)
theorem X14x18xe0 (i1 : Int) (s4x0 : SA) (n4x0 : Nat) (s4x1 : SA) (n4x1 : Nat) (i4x2 : Int) (p7 : Option Ad) (s8 : SA) (n8 : Nat) (s9x0 : SA) (n9x0 : Nat) (s9x1 : SA) (n9x1 : Nat) (i9x2 : Int) (h : Heap) : Q14x18 M C (.exit 0) (S14xe0 i1 s4x0 n4x0 s4x1 n4x1 i4x2 p7 s8 n8 s9x0 n9x0 s9x1 n9x1 i9x2 h) = (
 (C 42 [(.ptr p7), (.int .i64 i1)] h).bind fun r58 =>
 gL (some r58.1) true fun s58 n58 =>
 L14x29 M C i1 s4x0 n4x0 s4x1 n4x1 i4x2 p7 s8 n8 s9x0 n9x0 s9x1 n9x1 i9x2 s58 n58 (n58 : Int) 0 r58.2 (Q14x29 M C)
 ) := by kernel_rfl
theorem L14x29xaux : rnd M C k14x29 2017612633061983122 912 ⟨(.any :: (vi i1 :: (.any :: .any :: (.box [(.sl s4x0 n4x0), (.sl s4x1 n4x1), (.int .i64 i4x2)] :: (.any :: .any :: (vp p7::vl s8 n8::.box [(.sl s9x0 n9x0), (.sl s9x1 n9x1), (.int .i64 i9x2)]::rep 48 (vl s58 n58::vi i59::vi i60::rep 88 []))))))), h⟩ Q = (
 letK (decide (i60 < i59)) fun b61 =>
 if b61 = true then
  (
  chk (true = true → 0 ≤ i60 ∧ i60 < (n58 : Int)) <|
  atP (adP s58) true fun a62 =>
  gI .i64 (ld1 h (Ad.add a62 (Int.toNat i60 * 1))) true fun i63 =>
  (C 43 [(.ptr p7), (.int .i64 i63), (.int .i64 1), (.sl s9x0 n9x0)] h).bind fun r68 =>
  gI .i64 (some r68.1) true fun i68 =>
  letK (decide (i68 ≤ i1)) fun b71 =>
  if b71 = true then
   (
   chk (true = true → 0 ≤ i63 ∧ i63 < (n9x0 : Int)) <|
   atP (adP s9x0) true fun a76 =>
   (st1 r68.2 (Ad.add a76 (Int.toNat i63 * 1)) (.int .i64 i68)).bind fun h_2 =>
   J14x40 M C i1 s4x0 n4x0 s4x1 n4x1 i4x2 p7 s8 n8 s9x0 n9x0 s9x1 n9x1 i9x2 s58 n58 i59 i60 h_2 Q
   )
  else
   (
   J14x40 M C i1 s4x0 n4x0 s4x1 n4x1 i4x2 p7 s8 n8 s9x0 n9x0 s9x1 n9x1 i9x2 s58 n58 i59 i60 r68.2 Q
   )
  )
 else
  (
  Q (.exit 2) (S14xe2 s4x0 n4x0 s4x1 n4x1 i4x2 p7 s8 n8 s9x0 n9x0 s9x1 n9x1 i9x2 h)
  )
 ) := by kernel_rfl
theorem L14x29xeq : TEq (L14x29 mk0 C i1 s4x0 n4x0 s4x1 n4x1 i4x2 p7 s8 n8 s9x0 n9x0 s9x1 n9x1 i9x2 s58 n58 i59 i60 h Q) (L14x29xaux mk0 C i1 s4x0 n4x0 s4x1 n4x1 i4x2 p7 s8 n8 s9x0 n9x0 s9x1 n9x1 i9x2 s58 n58 i59 i60 h Q) := loop_te (by kernel_rfl)
theorem J14x40xaux : (forceK tk (.any :: (vi i1 :: (.any :: .any :: (.box [(.sl s4x0 n4x0), (.sl s4x1 n4x1), (.int .i64 i4x2)] :: (.any :: .any :: (vp p7::vl s8 n8::.box [(.sl s9x0 n9x0), (.sl s9x1 n9x1), (.int .i64 i9x2)]::rep 48 (vl s58 n58::vi i59::vi i60::rep 88 []))))))) fun e => (blockQ 3 (seqQ (evalE M C k14x35) (seqQ (evalE M C k14x34) (roundQ M C k14x29 2017612633061983122 912 Q)))) .normal ⟨e, h⟩) = (
 letK (IntKind.wrap .i64 (i60 + 1)) fun i77 =>
 L14x29 M C i1 s4x0 n4x0 s4x1 n4x1 i4x2 p7 s8 n8 s9x0 n9x0 s9x1 n9x1 i9x2 s58 n58 i59 i77 h Q
 ) := by kernel_rfl
theorem J14x40xeq : TEq (J14x40 mk0 C i1 s4x0 n4x0 s4x1 n4x1 i4x2 p7 s8 n8 s9x0 n9x0 s9x1 n9x1 i9x2 s58 n58 i59 i60 h Q) (J14x40xaux mk0 C i1 s4x0 n4x0 s4x1 n4x1 i4x2 p7 s8 n8 s9x0 n9x0 s9x1 n9x1 i9x2 s58 n58 i59 i60 h Q) := join_te
theorem X14x29xe2 : Q14x29 M C (.exit 2) (S14xe2 s4x0 n4x0 s4x1 n4x1 i4x2 p7 s8 n8 s9x0 n9x0 s9x1 n9x1 i9x2 h) = (
 L14x44 M C s4x0 n4x0 s4x1 n4x1 i4x2 p7 s8 n8 s9x0 n9x0 s9x1 n9x1 i9x2 (n9x0 : Int) 0 h (Q14x44 M C)
 ) := by kernel_rfl
theorem L14x44xaux : rnd M C k14x44 3626777458843887524119440 784 ⟨(rep 4 (.box [(.sl s4x0 n4x0), (.sl s4x1 n4x1), (.int .i64 i4x2)] :: (.any :: .any :: (vp p7::vl s8 n8::.box [(.sl s9x0 n9x0), (.sl s9x1 n9x1), (.int .i64 i9x2)]::rep 70 (vi i80::vi i81::rep 67 []))))), h⟩ Q = (
 letK (decide (i81 < i80)) fun b82 =>
 if b82 = true then
  (
  atP p7 true fun a85 =>
  gL (ld1 h (Ad.add a85 2)) true fun s87 n87 =>
  chk (true = true → 0 ≤ i81 ∧ i81 < (n87 : Int)) <|
  atP (adP s87) true fun a89 =>
  gB (ld1 h (Ad.add a89 (Int.toNat i81 * 1))) true fun b90 =>
  gL (some (.sl s9x0 n9x0)) b90 fun s93 n93 =>
  chk (b90 = true → 0 ≤ i81 ∧ i81 < (n93 : Int)) <|
  atP (adP s93) b90 fun a95 =>
  atP (some (Ad.add a95 (Int.toNat i81 * 1))) b90 fun a96 =>
  gI .i64 (ld1 h a96) b90 fun i96 =>
  letK (decide (i96 < 0)) fun b97 =>
  letK (if b90 = true then b97 else false) fun b98 =>
  if b98 = true then
   (
   (C 43 [(.ptr p7), (.int .i64 i81), (.int .i64 0), (.sl s9x1 n9x1)] h).bind fun r106 =>
   gI .i64 (some r106.1) true fun i106 =>
   chk (true = true → 0 ≤ i81 ∧ i81 < (n9x1 : Int)) <|
   atP (adP s9x1) true fun a107 =>
   (st1 r106.2 (Ad.add a107 (Int.toNat i81 * 1)) (.int .i64 i106)).bind fun h_2 =>
   chk (true = true → 0 ≤ i81 ∧ i81 < (n9x1 : Int)) <|
   atP (adP s9x1) true fun a113 =>
   gI .i64 (ld1 h_2 (Ad.add a113 (Int.toNat i81 * 1))) true fun i114 =>
   letK (IntKind.wrap .i64 (i114 + 1)) fun i115 =>
   letK (foldMM true i9x2 [i115]) fun i116 =>
   J14x55 M C s4x0 n4x0 s4x1 n4x1 i4x2 p7 s8 n8 s9x0 n9x0 s9x1 n9x1 i116 i80 i81 h_2 Q
   )
  else
   (
   J14x55 M C s4x0 n4x0 s4x1 n4x1 i4x2 p7 s8 n8 s9x0 n9x0 s9x1 n9x1 i9x2 i80 i81 h Q
   )
  )
 else
  (
  Q (.exit 4) (S14xe4 s4x0 n4x0 s4x1 n4x1 i4x2 s8 n8 s9x0 n9x0 s9x1 n9x1 i9x2 h)
  )
 ) := by kernel_rfl
theorem L14x44xeq : TEq (L14x44 mk0 C s4x0 n4x0 s4x1 n4x1 i4x2 p7 s8 n8 s9x0 n9x0 s9x1 n9x1 i9x2 i80 i81 h Q) (L14x44xaux mk0 C s4x0 n4x0 s4x1 n4x1 i4x2 p7 s8 n8 s9x0 n9x0 s9x1 n9x1 i9x2 i80 i81 h Q) := loop_te (by kernel_rfl)
theorem J14x55xaux : (forceK tk (rep 4 (.box [(.sl s4x0 n4x0), (.sl s4x1 n4x1), (.int .i64 i4x2)] :: (.any :: .any :: (vp p7::vl s8 n8::.box [(.sl s9x0 n9x0), (.sl s9x1 n9x1), (.int .i64 i9x2)]::rep 70 (vi i80::vi i81::rep 67 []))))) fun e => (blockQ 5 (seqQ (evalE M C k14x50) (seqQ (evalE M C k14x49) (roundQ M C k14x44 3626777458843887524119440 784 Q)))) .normal ⟨e, h⟩) = (
 letK (IntKind.wrap .i64 (i81 + 1)) fun i118 =>
 L14x44 M C s4x0 n4x0 s4x1 n4x1 i4x2 p7 s8 n8 s9x0 n9x0 s9x1 n9x1 i9x2 i80 i118 h Q
 ) := by kernel_rfl
theorem J14x55xeq : TEq (J14x55 mk0 C s4x0 n4x0 s4x1 n4x1 i4x2 p7 s8 n8 s9x0 n9x0 s9x1 n9x1 i9x2 i80 i81 h Q) (J14x55xaux mk0 C s4x0 n4x0 s4x1 n4x1 i4x2 p7 s8 n8 s9x0 n9x0 s9x1 n9x1 i9x2 i80 i81 h Q) := join_te
theorem X14x44xe4 : Q14x44 M C (.exit 4) (S14xe4 s4x0 n4x0 s4x1 n4x1 i4x2 s8 n8 s9x0 n9x0 s9x1 n9x1 i9x2 h) = (
 L14x59 M C s4x0 n4x0 s4x1 n4x1 i4x2 s8 n8 s9x0 n9x0 s9x1 n9x1 i9x2 (n9x0 : Int) 0 h (Q14x59 M C)
 ) := by kernel_rfl
theorem L14x59xaux : rnd M C k14x59 7975367974709495237422842361682068240 528 ⟨rep 4 (.box [(.sl s4x0 n4x0), (.sl s4x1 n4x1), (.int .i64 i4x2)]::rep 3 (vl s8 n8::.box [(.sl s9x0 n9x0), (.sl s9x1 n9x1), (.int .i64 i9x2)]::rep 111 (vi i121::vi i122::rep 26 []))), h⟩ Q = (
 letK (decide (i122 < i121)) fun b123 =>
 if b123 = true then
  (
  (C 44 [(.sl s8 n8), (.int .i64 i122)] h).bind fun r135 =>
  gI .i64 (some r135.1) true fun i135 =>
  chk (true = true → 0 ≤ i135 ∧ i135 < (n9x0 : Int)) <|
  atP (adP s9x0) true fun a136 =>
  gI .i64 (ld1 r135.2 (Ad.add a136 (Int.toNat i135 * 1))) true fun i137 =>
  (C 44 [(.sl s8 n8), (.int .i64 i122)] r135.2).bind fun r142 =>
  gI .i64 (some r142.1) true fun i142 =>
  chkC (true = true → ldN r142.2 (Ad.add a136 (Int.toNat i135 * 1)) 1 = ldN r135.2 (Ad.add a136 (Int.toNat i135 * 1)) 1) <|
  chk (true = true → 0 ≤ i142 ∧ i142 < (n9x1 : Int)) <|
  atP (adP s9x1) true fun a143 =>
  gI .i64 (ld1 r142.2 (Ad.add a143 (Int.toNat i142 * 1))) true fun i144 =>
  chk (true = true → 0 ≤ i122 ∧ i122 < (n9x0 : Int)) <|
  atP (adP s9x0) true fun a145 =>
  (st1 r142.2 (Ad.add a145 (Int.toNat i122 * 1)) (.int .i64 i137)).bind fun h_2 =>
  chk (true = true → 0 ≤ i122 ∧ i122 < (n9x1 : Int)) <|
  atP (adP s9x1) true fun a146 =>
  (st1 h_2 (Ad.add a146 (Int.toNat i122 * 1)) (.int .i64 i144)).bind fun h_3 =>
  letK (IntKind.wrap .i64 (i122 + 1)) fun i147 =>
  L14x59 M C s4x0 n4x0 s4x1 n4x1 i4x2 s8 n8 s9x0 n9x0 s9x1 n9x1 i9x2 i121 i147 h_3 Q
  )
 else
  (
  Q (.exit 6) (S14xe6 s4x0 n4x0 s4x1 n4x1 i4x2 s9x0 n9x0 s9x1 n9x1 i9x2 h)
  )
 ) := by kernel_rfl
theorem L14x59xeq : TEq (L14x59 mk0 C s4x0 n4x0 s4x1 n4x1 i4x2 s8 n8 s9x0 n9x0 s9x1 n9x1 i9x2 i121 i122 h Q) (L14x59xaux mk0 C s4x0 n4x0 s4x1 n4x1 i4x2 s8 n8 s9x0 n9x0 s9x1 n9x1 i9x2 i121 i122 h Q) := loop_te (by kernel_rfl)
theorem X14x59xe6 : Q14x59 M C (.exit 6) (S14xe6 s4x0 n4x0 s4x1 n4x1 i4x2 s9x0 n9x0 s9x1 n9x1 i9x2 h) = (
 some (.tup [(.agg [(.sl s9x0 n9x0), (.sl s9x1 n9x1), (.int .i64 i9x2)]), (.int .i64 0)], h)
 ) := by kernel_rfl
end
noncomputable section
def k13x6:=AC.ret
def k13x5:=sq (.mask 12) k13x6
def k13x4:=AC.mask 2
def k13x3:=sq (.cond (.tmp 13)
 (.seq (of [
 mv 14 4,
 o 2 (.move (.c (.sl .nil 0))),
 mv 3 14]) k13x5)
  (.skip)) k13x4
def k13x2:=sq (of [
 mv 12 4,
 bc 13 .neq 12 0]) k13x3
def k13x16:=AC.exit 0
def k13x15:=AC.mask 7340096
def k13x26:=AC.exit 2
def k13x25:=AC.mask 7340992
def k13x24:=sq (.cond (.tmp 32)
 (.skip)
 (.seq (.mask 7340096) k13x26)) k13x25
def k13x30:=AC.join 7340992
def k13x29:=sq (.cond (.tmp 38)
 (of [
 mv 39 6,
 mv 40 7,
 mv 41 9,
 o 42 (.build [(.int .i64 0), (.int .i64 0)] [(0, 1, (t 40)), (1, 1, (t 41))]),
 o 43 (.buildSl [(.int .i64 0), (.int .i64 0)] 2 [(0, (t 42))]),
 o 44 (.append [(.int .i64 0), (.int .i64 0)] 2 16 (t 39) (t 43)),
 mv 6 44])
  (.skip)) k13x30
def k13x28:=AC.mask 7340992
def k13x27:=of [
 mv 33 9,
 bc 34 .add 33 1,
 mv 9 34]
def k13x23:=sq (.seq (.block 3 (.seq (of [
 mv 35 8,
 mv 36 9,
 ia 37 1 35 36,
 lb 38 37]) k13x29)) k13x28) k13x27
def k13x22:=sq (.seq (of [
 mv 29 9,
 mv 30 8,
 ln 31 30,
 bt 32 .lss 29 31]) k13x24) k13x23
def k13x21:=AC.mask 7340096
def k13x20:=sq (.block 2 (.loop 7340992 7340096 k13x22)) k13x21
def k13x19:=sq (of [
 mv 27 7,
 bc 28 .add 27 1,
 mv 9 28]) k13x20
def k13x18:=AC.mask 7340096
def k13x17:=of [
 bc 45 .add 22 1,
 mv 22 45]
def k13x14:=sq (.seq (.block 1 (.seq (of [
 mv 24 22,
 ia 25 1 20 22,
 ls 26 25,
 mv 7 24,
 mv 8 26]) k13x19)) k13x18) k13x17
def k13x13:=sq (.seq (.cond (.tmp 23)
 (.skip)
 (.seq (.mask 64) k13x16)) k13x15) k13x14
def k13x12:=sq (of [
 bt 23 .lss 22 21]) k13x13
def k13x11:=AC.mask 64
def k13x10:=sq (.block 0 (.loop 7340096 64 k13x12)) k13x11
def k13x33:=AC.ret
def k13x32:=sq (.mask 12) k13x33
def k13x9:=sq (of [
 mv 46 6,
 mv 2 46,
 o 3 (.move (c 0))]) k13x32
def k13x8:=sq (.seq (of [
 mv 17 5,
 nc 18 17,
 fa 19 0 18,
 ls 20 19,
 ln 21 20,
 o 22 (.move (c 0))]) k13x10) k13x9
def k13x7:=sq (of [
 o 6 (.move (.c (.sl .nil 0)))]) k13x8
def k13x1:=sq (of [
 o 15 (.load (.agg [(.int .i64), .sl, (.int .i64), .sl]) (t 1)),
 o 16 (.call 40 [(t 15)] [(.cell .ptr)] (.ptr none)),
 mv 5 16]) k13x7
def k13x0:=sq (.seq (of [
 o 10 (.load (.agg [(.int .i64), .sl, (.int .i64), .sl]) (t 1)),
 o 11 (.call 26 [(t 10)] [I] (.int .i64 0)),
 mv 4 11]) k13x2) k13x1
end
noncomputable section
variable (i0x0 : Int) (s0x1 : SA) (n0x1 : Nat) (i0x2 : Int) (s0x3 : SA) (n0x3 : Nat) (s6 : SA) (n6 : Nat) (i7 : Int) (s8 : SA) (n8 : Nat) (i9 : Int) (s20 : SA) (n20 : Nat) (i21 i22 : Int) (h : Heap) (Q : Kont R)
def c13 : AFn := ⟨47, [.tmp 2, .tmp 3],
 .seq (of [
 o 1 (.boxL (t 0)),
 o 2 (.move (.c (.sl .nil 0))),
 o 3 (.move (c 0))]) k13x0⟩
def S13xe0 : St := ⟨rep 6 (vl s6 n6::rep 40 []), h⟩
def S13xe2 : St := ⟨rep 6 (vl s6 n6::rep 13 (vl s20 n20::vi i21::vi i22::rep 24 [])), h⟩
def Q13x12 (M : Mk) (C : Cal) : Kont (AV × Heap) := (blockQ 0 (seqQ (evalE M C k13x11) (seqQ (evalE M C k13x9) (endQ [.tmp 2, .tmp 3]))))
def L13x12 : Option R := loopE (evalE M C k13x12) 7340096 64 ⟨rep 6 (vl s6 n6::rep 13 (vl s20 n20::vi i21::vi i22::rep 24 [])), h⟩ Q
def Q13x22 : Kont R := (blockQ 2 (seqQ (evalE M C k13x21) (blockQ 1 (seqQ (evalE M C k13x18) (seqQ (evalE M C k13x17) (roundQ M C k13x12 7340096 64 Q))))))
def L13x22 : Option R := loopE (evalE M C k13x22) 7340992 7340096 ⟨rep 6 (vl s6 n6::vi i7::vl s8 n8::vi i9::rep 10 (vl s20 n20::vi i21::vi i22::rep 24 [])), h⟩ Q
def J13x31 : Option R := M R (blockQ 3 (seqQ (evalE M C k13x28) (seqQ (evalE M C k13x27) (roundQ M C k13x22 7340992 7340096 Q)))) (rep 6 (vl s6 n6::vi i7::vl s8 n8::vi i9::rep 10 (vl s20 n20::vi i21::vi i22::rep 24 []))) h
theorem r13 (i0x0 : Int) (s0x1 : SA) (n0x1 : Nat) (i0x2 : Int) (s0x3 : SA) (n0x3 : Nat) (h : Heap) : runE M C c13 [(.agg [(.int .i64 i0x0), (.sl s0x1 n0x1), (.int .i64 i0x2), (.sl s0x3 n0x3)])] h = (
 (C 26 [(.agg [(.int .i64 i0x0), (.sl s0x1 n0x1), (.int .i64 i0x2), (.sl s0x3 n0x3)])] h).bind fun r11 =>
 gI .i64 (some r11.1) true fun i11 =>
 letK (!decide (i11 = 0)) fun b13 =>
 if b13 = true then
  (
  some (.tup [(.sl .nil 0), (.int .i64 i11)], r11.2)
  )
 else
  (
  (C 40 [(.agg [(.int .i64 i0x0), (.sl s0x1 n0x1), (.int .i64 i0x2), (.sl s0x3 n0x3)])] r11.2).bind fun r16 =>
  gP (some r16.1) true fun p16 =>
  atP p16 true fun a18 =>
  gL (ld1 r16.2 (Ad.add a18 0)) true fun s20 n20 =>
  L13x12 M C .nil 0 s20 n20 (n20 : Int) 0 r16.2 (Q13x12 M C)
  )
 ) := by kernel_rfl
theorem cf13 : cFn Try.prog 13 = some c13 := by kernel_rfl
theorem e13 : TEq (E 13 [(.agg [(.int .i64 i0x0), (.sl s0x1 n0x1), (.int .i64 i0x2), (.sl s0x3 n0x3)])] h) (r13 mk0 E i0x0 s0x1 n0x1 i0x2 s0x3 n0x3 h) := (EV_eq (P := Try.prog) (T := T0) rfl cf13 _ h).trans (r13 mk0 E i0x0 s0x1 n0x1 i0x2 s0x3 n0x3 h)
theorem L13x12xaux : rnd M C k13x12 7340096 64 ⟨rep 6 (vl s6 n6::rep 13 (vl s20 n20::vi i21::vi i22::rep 24 [])), h⟩ Q = (
 letK (decide (i22 < i21)) fun b23 =>
 if b23 = true then
  (
  chk (true = true → 0 ≤ i22 ∧ i22 < (n20 : Int)) <|
  atP (adP s20) true fun a25 =>
  gL (ld1 h (Ad.add a25 (Int.toNat i22 * 1))) true fun s26 n26 =>
  letK (IntKind.wrap .i64 (i22 + 1)) fun i28 =>
  L13x22 M C s6 n6 i22 s26 n26 i28 s20 n20 i21 i22 h (Q13x22 M C Q)
  )
 else
  (
  Q (.exit 0) (S13xe0 s6 n6 h)
  )
 ) := by kernel_rfl
theorem L13x12xeq : TEq (L13x12 mk0 C s6 n6 s20 n20 i21 i22 h Q) (L13x12xaux mk0 C s6 n6 s20 n20 i21 i22 h Q) := loop_te (by kernel_rfl)
theorem L13x22xaux : rnd M C k13x22 7340992 7340096 ⟨rep 6 (vl s6 n6::vi i7::vl s8 n8::vi i9::rep 10 (vl s20 n20::vi i21::vi i22::rep 24 [])), h⟩ Q = (
 letK (decide (i9 < (n8 : Int))) fun b32 =>
 if b32 = true then
  (
  chk (true = true → 0 ≤ i9 ∧ i9 < (n8 : Int)) <|
  atP (adP s8) true fun a37 =>
  gB (ld1 h (Ad.add a37 (Int.toNat i9 * 1))) true fun b38 =>
  if b38 = true then
   (
   newK h (.cells [(.int .i64 i7), (.int .i64 i9)] (.grow 2) 0) fun h_2 =>
   (ldSl h_2 (.pos ⟨List.length h, 0, 0⟩) (1 * 2)).bind fun y44 =>
   (apnd h_2 (.sl s6 n6) 2 16 y44 1).bind fun r44 =>
   gL (some r44.1) true fun s44 n44 =>
   J13x31 M C s44 n44 i7 s8 n8 i9 s20 n20 i21 i22 r44.2 Q
   )
  else
   (
   J13x31 M C s6 n6 i7 s8 n8 i9 s20 n20 i21 i22 h Q
   )
  )
 else
  (
  Q (.exit 2) (S13xe2 s6 n6 s20 n20 i21 i22 h)
  )
 ) := by kernel_rfl
theorem L13x22xeq : TEq (L13x22 mk0 C s6 n6 i7 s8 n8 i9 s20 n20 i21 i22 h Q) (L13x22xaux mk0 C s6 n6 i7 s8 n8 i9 s20 n20 i21 i22 h Q) := loop_te (by kernel_rfl)
theorem J13x31xaux : (forceK tk (rep 6 (vl s6 n6::vi i7::vl s8 n8::vi i9::rep 10 (vl s20 n20::vi i21::vi i22::rep 24 []))) fun e => (blockQ 3 (seqQ (evalE M C k13x28) (seqQ (evalE M C k13x27) (roundQ M C k13x22 7340992 7340096 Q)))) .normal ⟨e, h⟩) = (
 letK (IntKind.wrap .i64 (i9 + 1)) fun i34 =>
 L13x22 M C s6 n6 i7 s8 n8 i34 s20 n20 i21 i22 h Q
 ) := by kernel_rfl
theorem J13x31xeq : TEq (J13x31 mk0 C s6 n6 i7 s8 n8 i9 s20 n20 i21 i22 h Q) (J13x31xaux mk0 C s6 n6 i7 s8 n8 i9 s20 n20 i21 i22 h Q) := join_te
theorem X13x12xe0 : Q13x12 M C (.exit 0) (S13xe0 s6 n6 h) = (
 some (.tup [(.sl s6 n6), (.int .i64 0)], h)
 ) := by kernel_rfl
theorem X13x22xe2 : Q13x22 M C Q (.exit 2) (S13xe2 s6 n6 s20 n20 i21 i22 h) = (
 letK (IntKind.wrap .i64 (i22 + 1)) fun i45 =>
 L13x12 M C s6 n6 s20 n20 i21 i45 h Q
 ) := by kernel_rfl
end
end
end Go.Proofs.Ytnmdadadjneaiaa.D
