/- Parts of the proof, printed. -/
import Derived.Test.YtnmdadadjneaiaaLibD
import Derived.Test.YtnmdadadjneaiaaDGen2
import Derived.KernelRfl
set_option linter.unusedVariables false
set_option maxRecDepth 100000
namespace Go.Proofs.Ytnmdadadjneaiaa.D
open Go Go.Proofs.Ytnmdadadjneaiaa.Abs Abs.Sh Go.Proofs
section
variable {R : Type} (M : Mk) (C : Cal)
def k19x6 : AC := .ret
def k19x5 : AC := .seq (.mask 8) k19x6
def k19x10 : AC := .ret
def k19x9 : AC := .seq (.mask 8) k19x10
def k19x14 : AC := .ret
def k19x13 : AC := .seq (.mask 8) k19x14
def k19x12 : AC := .mask 2
def k19x11 : AC := .seq (.cond (.tmp 19)
 (.seq (.ops false [
 o 26 (.fieldAddr 1 (t 1)),
 o 27 (.load (.cell .sl) (t 26)),
 o 28 (.move (t 0)),
 o 29 (.indexAddr 1 (t 27) (t 28)),
 o 30 (.load I (t 29)),
 o 31 (.bin .other .add (c 11) (t 30)),
 o 3 (.move (t 31))]) k19x13)
  (.skip)) k19x12
def k19x8 : AC := .mask 2
def k19x7 : AC := .seq (.cond (.tmp 7)
 (.seq (.ops false [
 o 14 (.fieldAddr 0 (t 1)),
 o 15 (.load (.cell .sl) (t 14)),
 o 16 (.move (t 0)),
 o 17 (.indexAddr 1 (t 15) (t 16)),
 o 18 (.load I (t 17)),
 o 3 (.move (t 18))]) k19x9)
  (.seq (.ops false [
 o 20 (.fieldAddr 1 (t 1)),
 o 21 (.load (.cell .sl) (t 20)),
 o 22 (.move (t 0)),
 o 23 (.indexAddr 1 (t 21) (t 22)),
 o 24 (.load I (t 23)),
 o 25 (.bin .other .geq (t 24) (c 0)),
 o 19 (.move (t 25))]) k19x11)) k19x8
def k19x4 : AC := .mask 2
def k19x3 : AC := .seq (.cond (.tmp 4)
 (.seq (.ops false [
 o 3 (.move (c 0))]) k19x5)
  (.seq (.ops false [
 o 8 (.fieldAddr 0 (t 1)),
 o 9 (.load (.cell .sl) (t 8)),
 o 10 (.move (t 0)),
 o 11 (.indexAddr 1 (t 9) (t 10)),
 o 12 (.load I (t 11)),
 o 13 (.bin .other .gtr (t 12) (c 0)),
 o 7 (.move (t 13))]) k19x7)) k19x4
def k19x2 : AC := .mask 2
def k19x16 : AC := .ret
def k19x15 : AC := .seq (.mask 8) k19x16
def k19x1 : AC := .seq (.ops false [
 o 32 (.fieldAddr 2 (t 1)),
 o 33 (.load I (t 32)),
 o 34 (.bin .other .add (c 11) (t 33)),
 o 3 (.move (t 34))]) k19x15
def k19x0 : AC := .seq (.seq (.block 0 (.seq (.ops false [
 o 5 (.move (t 0)),
 o 6 (.bin .other .eql (t 5) (c 0)),
 o 4 (.move (t 6))]) k19x3)) k19x2) k19x1
def c19 : AFn := ⟨35, [.tmp 3],
 .seq (.ops false [
 o 3 (.move (c 0))]) k19x0⟩
theorem r19 (i0 : Int) (p1 : Option Ad) (h : Heap) : runE M C c19 [(.int .i64 i0), (.ptr p1)] h = (
 letK (decide (i0 = 0)) fun b6 =>
 if b6 = true then
  (
  some ((.int .i64 0), h)
  )
 else
  (
  atP p1 true fun a8 =>
  gL (ld1 h (Ad.add a8 0)) true fun s9 n9 =>
  chk (true = true → 0 ≤ i0 ∧ i0 < (n9 : Int)) <|
  atP (adP s9) true fun a11 =>
  gI .i64 (ld1 h (Ad.add a11 (Int.toNat i0 * 1))) true fun i12 =>
  letK (decide ((0 : Int) < i12)) fun b13 =>
  if b13 = true then
   (
   atP p1 true fun a14 =>
   gL (ld1 h (Ad.add a14 0)) true fun s15 n15 =>
   chk (true = true → 0 ≤ i0 ∧ i0 < (n15 : Int)) <|
   atP (adP s15) true fun a17 =>
   gI .i64 (ld1 h (Ad.add a17 (Int.toNat i0 * 1))) true fun i18 =>
   some ((.int .i64 i18), h)
   )
  else
   (
   atP p1 true fun a20 =>
   gL (ld1 h (Ad.add a20 1)) true fun s21 n21 =>
   chk (true = true → 0 ≤ i0 ∧ i0 < (n21 : Int)) <|
   atP (adP s21) true fun a23 =>
   gI .i64 (ld1 h (Ad.add a23 (Int.toNat i0 * 1))) true fun i24 =>
   letK (decide (0 ≤ i24)) fun b25 =>
   if b25 = true then
    (
    atP p1 true fun a26 =>
    gL (ld1 h (Ad.add a26 1)) true fun s27 n27 =>
    chk (true = true → 0 ≤ i0 ∧ i0 < (n27 : Int)) <|
    atP (adP s27) true fun a29 =>
    gI .i64 (ld1 h (Ad.add a29 (Int.toNat i0 * 1))) true fun i30 =>
    letK (IntKind.wrap .i64 (11 + i30)) fun i31 =>
    some ((.int .i64 i31), h)
    )
   else
    (
    atP p1 true fun a32 =>
    gI .i64 (ld1 h (Ad.add a32 2)) true fun i33 =>
    letK (IntKind.wrap .i64 (11 + i33)) fun i34 =>
    some ((.int .i64 i34), h)
    )
   )
  )
 ) := by kernel_rfl
theorem cf19 : cFn Try.prog 19 = some c19 := by kernel_rfl
theorem e19 (i0 : Int) (p1 : Option Ad) (h : Heap) : TEq (E 19 [(.int .i64 i0), (.ptr p1)] h) (r19 mk0 E i0 p1 h) := (EV_eq (P := Try.prog) (T := T0) rfl cf19 _ h).trans (r19 mk0 E i0 p1 h)
def k22x2 : AC := .ret
def k22x1 : AC := .seq (.mask 4) k22x2
def k22x0 : AC := .seq (.ops false [
 o 3 (.move (t 0)),
 o 4 (.conv .u64 (t 3)),
 o 5 (.conv .u32 (t 4)),
 o 6 (.conv .i32 (t 5)),
 o 7 (.conv .i64 (t 6)),
 o 2 (.move (t 7))]) k22x1
def c22 : AFn := ⟨8, [.tmp 2],
 .seq (.ops false [
 o 2 (.move (c 0))]) k22x0⟩
theorem r22 (i0 : Int) (h : Heap) : runE M C c22 [(.int .i64 i0)] h = (
 letK (IntKind.wrap .u64 i0) fun i4 =>
 letK (IntKind.wrap .u32 i4) fun i5 =>
 letK (IntKind.wrap .i32 i5) fun i6 =>
 letK (IntKind.wrap .i64 i6) fun i7 =>
 some ((.int .i64 i7), h)
 ) := by kernel_rfl
theorem cf22 : cFn Try.prog 22 = some c22 := by kernel_rfl
theorem e22 (i0 : Int) (h : Heap) : TEq (E 22 [(.int .i64 i0)] h) (r22 mk0 E i0 h) := (EV_eq (P := Try.prog) (T := T0) rfl cf22 _ h).trans (r22 mk0 E i0 h)
def k24x5 : AC := .ret
def k24x4 : AC := .seq (.mask 16) k24x5
def k24x3 : AC := .mask 3
def k24x2 : AC := .seq (.cond (.tmp 10)
 (.seq (.ops false [
 o 4 (.move (.c (.bool false)))]) k24x4)
  (.skip)) k24x3
def k24x13 : AC := .exit 0
def k24x12 : AC := .mask 12291
def k24x20 : AC := .ret
def k24x19 : AC := .seq (.mask 16) k24x20
def k24x18 : AC := .mask 12291
def k24x17 : AC := .seq (.cond (.tmp 24)
 (.seq (.ops false [
 o 4 (.move (.c (.bool false)))]) k24x19)
  (.skip)) k24x18
def k24x16 : AC := .seq (.ops false [
 o 16 (.move (t 0)),
 o 17 (.move (t 5)),
 o 18 (.indexAddr 1 (t 16) (t 17)),
 o 19 (.load I (t 18)),
 o 20 (.move (t 1)),
 o 21 (.move (t 5)),
 o 22 (.indexAddr 1 (t 20) (t 21)),
 o 23 (.load I (t 22)),
 o 24 (.bin .other .neq (t 19) (t 23))]) k24x17
def k24x15 : AC := .mask 12291
def k24x14 : AC := .ops false [
 o 25 (.bin .other .add (t 13) (c 1)),
 o 13 (.move (t 25))]
def k24x11 : AC := .seq (.seq (.block 1 (.seq (.ops false [
 o 15 (.move (t 13)),
 o 5 (.move (t 15))]) k24x16)) k24x15) k24x14
def k24x10 : AC := .seq (.seq (.cond (.tmp 14)
 (.skip)
 (.seq (.mask 0) k24x13)) k24x12) k24x11
def k24x9 : AC := .seq (.ops false [
 o 14 (.bin .other .lss (t 13) (t 12))]) k24x10
def k24x8 : AC := .mask 0
def k24x7 : AC := .seq (.block 0 (.loop 12291 0 k24x9)) k24x8
def k24x22 : AC := .ret
def k24x21 : AC := .seq (.mask 16) k24x22
def k24x6 : AC := .seq (.ops false [
 o 4 (.move (.c (.bool true)))]) k24x21
def k24x1 : AC := .seq (.seq (.ops false [
 o 11 (.move (t 0)),
 o 12 (.lenSl (t 11)),
 o 13 (.move (c 0))]) k24x7) k24x6
def k24x0 : AC := .seq (.seq (.ops false [
 o 6 (.move (t 0)),
 o 7 (.lenSl (t 6)),
 o 8 (.move (t 1)),
 o 9 (.lenSl (t 8)),
 o 10 (.bin .other .neq (t 7) (t 9))]) k24x2) k24x1
def c24 : AFn := ⟨26, [.tmp 4],
 .seq (.ops false [
 o 4 (.move (.c (.bool false)))]) k24x0⟩
def S24xr (b4 : Bool) (h : Heap) : St := ⟨(rep 4 (vb b4 :: (rep 21 []))), h⟩
def S24xe0 (h : Heap) : St := ⟨(rep 26 []), h⟩
noncomputable def Q24x9 (M : Mk) (C : Cal) : Kont (AV × Heap) := (blockQ 0 (seqQ (evalE M C k24x8) (seqQ (evalE M C k24x6) (endQ [.tmp 4]))))
noncomputable def L24x9 (s0 : SA) (n0 : Nat) (s1 : SA) (n1 : Nat) (i12 i13 : Int) (h : Heap) (Q : Kont R) : Option R := loopE (evalE M C k24x9) 12291 0 ⟨(vl s0 n0 :: (vl s1 n1 :: (rep 10 (vi i12 :: (vi i13 :: (rep 12 [])))))), h⟩ Q
theorem r24 (s0 : SA) (n0 : Nat) (s1 : SA) (n1 : Nat) (h : Heap) : runE M C c24 [(.sl s0 n0), (.sl s1 n1)] h = (
 letK (!decide (((n0 : Int) : Int) = (n1 : Int))) fun b10 =>
 if b10 = true then
  (
  some ((.bool false), h)
  )
 else
  (
  L24x9 M C s0 n0 s1 n1 (n0 : Int) 0 h (Q24x9 M C)
  )
 ) := by kernel_rfl
theorem cf24 : cFn Try.prog 24 = some c24 := by kernel_rfl
theorem e24 (s0 : SA) (n0 : Nat) (s1 : SA) (n1 : Nat) (h : Heap) : TEq (E 24 [(.sl s0 n0), (.sl s1 n1)] h) (r24 mk0 E s0 n0 s1 n1 h) := (EV_eq (P := Try.prog) (T := T0) rfl cf24 _ h).trans (r24 mk0 E s0 n0 s1 n1 h)
theorem L24x9xaux (s0 : SA) (n0 : Nat) (s1 : SA) (n1 : Nat) (i12 i13 : Int) (h : Heap) (Q : Kont R) : (restrF 12291 ⟨(vl s0 n0 :: (vl s1 n1 :: (rep 10 (vi i12 :: (vi i13 :: (rep 12 [])))))), h⟩ fun σ => evalE M C k24x9 σ (roundQ M C k24x9 12291 0 Q)) = (
 letK (decide (i13 < i12)) fun b14 =>
 if b14 = true then
  (
  chk (true = true → 0 ≤ i13 ∧ i13 < (n0 : Int)) <|
  atP (adP s0) true fun a18 =>
  gI .i64 (ld1 h (Ad.add a18 (Int.toNat i13 * 1))) true fun i19 =>
  chk (true = true → 0 ≤ i13 ∧ i13 < (n1 : Int)) <|
  atP (adP s1) true fun a22 =>
  gI .i64 (ld1 h (Ad.add a22 (Int.toNat i13 * 1))) true fun i23 =>
  letK (!decide (i19 = i23)) fun b24 =>
  if b24 = true then
   (
   Q .ret (S24xr false h)
   )
  else
   (
   letK (IntKind.wrap .i64 (i13 + 1)) fun i25 =>
   L24x9 M C s0 n0 s1 n1 i12 i25 h Q
   )
  )
 else
  (
  Q (.exit 0) (S24xe0 h)
  )
 ) := by kernel_rfl
theorem L24x9xeq (s0 : SA) (n0 : Nat) (s1 : SA) (n1 : Nat) (i12 i13 : Int) (h : Heap) (Q : Kont R) : TEq (L24x9 mk0 C s0 n0 s1 n1 i12 i13 h Q) (L24x9xaux mk0 C s0 n0 s1 n1 i12 i13 h Q) := loop_eqn _ _ _ _ _ h Q (by kernel_rfl) (L24x9xaux mk0 C s0 n0 s1 n1 i12 i13 h Q)
theorem X24x9xr (b4 : Bool) (h : Heap) : Q24x9 M C .ret (S24xr b4 h) = (
 some ((.bool b4), h)
 ) := by kernel_rfl
theorem X24x9xe0 (h : Heap) : Q24x9 M C (.exit 0) (S24xe0 h) = (
 some ((.bool true), h)
 ) := by kernel_rfl
def k45x5 : AC := .ret
def k45x4 : AC := .seq (.mask 4) k45x5
def k45x3 : AC := .mask 2
def k45x2 : AC := .seq (.cond (.tmp 10)
 (.seq (.ops false [
 o 2 (.move (c 0))]) k45x4)
  (.skip)) k45x3
def k45x7 : AC := .ret
def k45x6 : AC := .seq (.mask 4) k45x7
def k45x1 : AC := .seq (.ops false [
 o 11 (.fieldAddr 1 (t 1)),
 o 12 (.load I (t 11)),
 o 2 (.move (t 12))]) k45x6
def k45x0 : AC := .seq (.seq (.ops true [
 o 3 (.fieldAddr 0 (t 1)),
 o 4 (.load I (t 3)),
 o 5 (.bin .other .eql (t 4) (c 13)),
 o 6 (.move (t 5)),
 f 7 6 (.fieldAddr 0 (t 1)),
 f 8 6 (.load I (t 7)),
 f 9 6 (.bin .other .eql (t 8) (c 23)),
 o 10 (.pick (t 6) (.c (.bool true)) (t 9))]) k45x2) k45x1
def c45 : AFn := ⟨13, [.tmp 2],
 .seq (.ops false [
 o 1 (.boxL (t 0)),
 o 2 (.move (c 0))]) k45x0⟩
theorem r45 (i0x0 i0x1 : Int) (i0x2 i0x3 i0x4 : Int) (s0x5 : SA) (n0x5 : Nat) (h : Heap) : runE M C c45 [(.agg [(.int .i64 i0x0), (.int .i64 i0x1), (.int .i64 i0x2), (.int .i64 i0x3), (.int .i64 i0x4), (.sl s0x5 n0x5)])] h = (
 letK (decide (i0x0 = 13)) fun b5 =>
 gI .i64 (some (.int .i64 i0x0)) (!b5) fun i8 =>
 letK (decide (i8 = 23)) fun b9 =>
 letK (if b5 = true then true else b9) fun b10 =>
 if b10 = true then
  (
  some ((.int .i64 0), h)
  )
 else
  (
  some ((.int .i64 i0x1), h)
  )
 ) := by kernel_rfl
theorem cf45 : cFn Try.prog 45 = some c45 := by kernel_rfl
theorem e45 (i0x0 i0x1 : Int) (i0x2 i0x3 i0x4 : Int) (s0x5 : SA) (n0x5 : Nat) (h : Heap) : TEq (E 45 [(.agg [(.int .i64 i0x0), (.int .i64 i0x1), (.int .i64 i0x2), (.int .i64 i0x3), (.int .i64 i0x4), (.sl s0x5 n0x5)])] h) (r45 mk0 E i0x0 i0x1 i0x2 i0x3 i0x4 s0x5 n0x5 h) := (EV_eq (P := Try.prog) (T := T0) rfl cf45 _ h).trans (r45 mk0 E i0x0 i0x1 i0x2 i0x3 i0x4 s0x5 n0x5 h)
def c55 : AFn := ⟨8, [],
 .ops false [
 o 2 (.move (t 0)),
 o 3 (.move (t 0)),
 o 4 (.nilCheck (t 2)),
 o 5 (.fieldAddr 6 (t 4)),
 u (.store 1 (t 5) (.c (.bool true))),
 o 6 (.nilCheck (t 3)),
 o 7 (.fieldAddr 7 (t 6)),
 u (.store 1 (t 7) (.c (.bool true)))]⟩
theorem r55 (p0 : Option Ad) (h : Heap) : runE M C c55 [(.ptr p0)] h = (
 atP p0 true fun a4 =>
 (st1 h (Ad.add a4 6) (.bool true)).bind fun h_2 =>
 atP p0 true fun a6 =>
 (st1 h_2 (Ad.add a6 7) (.bool true)).bind fun h_3 =>
 some (.tup [], h_3)
 ) := by kernel_rfl
theorem cf55 : cFn Try.prog 55 = some c55 := by kernel_rfl
theorem e55 (p0 : Option Ad) (h : Heap) : TEq (E 55 [(.ptr p0)] h) (r55 mk0 E p0 h) := (EV_eq (P := Try.prog) (T := T0) rfl cf55 _ h).trans (r55 mk0 E p0 h)
def k57x1 : AC := .join 0
def k57x0 : AC := .seq (.cond (.tmp 8)
 (.ops false [
 o 9 (.move (t 0)),
 o 10 (.move (t 0)),
 o 11 (.move (t 1)),
 o 12 (.nilCheck (t 9)),
 o 13 (.fieldAddr 6 (t 12)),
 u (.store 1 (t 13) (.c (.bool true))),
 o 14 (.nilCheck (t 10)),
 o 15 (.fieldAddr 5 (t 14)),
 u (.store 1 (t 15) (t 11))])
  (.skip)) k57x1
def c57 : AFn := ⟨16, [],
 .seq (.ops false [
 o 4 (.move (t 0)),
 o 5 (.nilCheck (t 4)),
 o 6 (.fieldAddr 6 (t 5)),
 o 7 (.load (.cell .bool) (t 6)),
 o 8 (.un .not (t 7))]) k57x0⟩
noncomputable def J57x2 (M : Mk) (C : Cal) (h : Heap) : Res := M (AV × Heap) (endQ []) (rep 16 []) h
theorem r57 (p0 : Option Ad) (i1 : Int) (h : Heap) : runE M C c57 [(.ptr p0), (.int .i64 i1)] h = (
 atP p0 true fun a5 =>
 gB (ld1 h (Ad.add a5 6)) true fun b7 =>
 if (!b7) = true then
  (
  atP p0 true fun a12 =>
  (st1 h (Ad.add a12 6) (.bool true)).bind fun h_2 =>
  atP p0 true fun a14 =>
  (st1 h_2 (Ad.add a14 5) (.int .i64 i1)).bind fun h_3 =>
  J57x2 M C h_3
  )
 else
  (
  J57x2 M C h
  )
 ) := by kernel_rfl
theorem cf57 : cFn Try.prog 57 = some c57 := by kernel_rfl
theorem e57 (p0 : Option Ad) (i1 : Int) (h : Heap) : TEq (E 57 [(.ptr p0), (.int .i64 i1)] h) (r57 mk0 E p0 i1 h) := (EV_eq (P := Try.prog) (T := T0) rfl cf57 _ h).trans (r57 mk0 E p0 i1 h)
theorem J57x2xaux (M : Mk) (C : Cal) (h : Heap) : (forceK tk (rep 16 []) fun e => (endQ []) .normal ⟨e, h⟩) = (
 some (.tup [], h)
 ) := by kernel_rfl
theorem J57x2xeq (C : Cal) (h : Heap) : TEq (J57x2 mk0 C h) (J57x2xaux mk0 C h) := join_eqn _ _ h (J57x2xaux mk0 C h)
def k85x5 : AC := .ret
def k85x4 : AC := .seq (.mask 48) k85x5
def k85x3 : AC := .mask 3
def k85x2 : AC := .seq (.cond (.tmp 22)
 (.seq (.ops false [
 o 4 (.move (c 0)),
 o 5 (.move (.c (.bool false)))]) k85x4)
  (.skip)) k85x3
def k85x7 : AC := .ret
def k85x6 : AC := .seq (.mask 48) k85x7
def k85x1 : AC := .seq (.ops false [
 o 23 (.move (t 0)),
 o 24 (.nilCheck (t 23)),
 o 25 (.fieldAddr 0 (t 24)),
 o 26 (.load (.cell .sl) (t 25)),
 o 27 (.move (t 1)),
 o 28 (.bin .other .quo (t 27) (c 2)),
 o 29 (.indexAddr 1 (t 26) (t 28)),
 o 30 (.load I (t 29)),
 o 4 (.move (t 30)),
 o 5 (.move (.c (.bool true)))]) k85x6
def k85x0 : AC := .seq (.seq (.ops true [
 o 6 (.move (t 1)),
 o 7 (.bin .other .rem (t 6) (c 2)),
 o 8 (.bin .other .neq (t 7) (c 0)),
 o 9 (.move (t 8)),
 f 10 9 (.move (t 1)),
 f 11 9 (.bin .other .lss (t 10) (c 2)),
 o 12 (.pick (t 9) (.c (.bool true)) (t 11)),
 o 13 (.move (t 12)),
 f 14 13 (.move (t 1)),
 f 15 13 (.bin .other .quo (t 14) (c 2)),
 f 16 13 (.move (t 0)),
 f 17 13 (.nilCheck (t 16)),
 f 18 13 (.fieldAddr 0 (t 17)),
 f 19 13 (.load (.cell .sl) (t 18)),
 f 20 13 (.lenSl (t 19)),
 f 21 13 (.bin .other .geq (t 15) (t 20)),
 o 22 (.pick (t 13) (.c (.bool true)) (t 21))]) k85x2) k85x1
def c85 : AFn := ⟨31, [.tmp 4, .tmp 5],
 .seq (.ops false [
 o 4 (.move (c 0)),
 o 5 (.move (.c (.bool false)))]) k85x0⟩
theorem r85 (p0 : Option Ad) (i1 : Int) (h : Heap) : runE M C c85 [(.ptr p0), (.int .i64 i1)] h = (
 letK (Int.tmod i1 2) fun i7 =>
 letK (!decide (i7 = 0)) fun b8 =>
 letK (decide (i1 < 2)) fun b11 =>
 letK (if b8 = true then true else b11) fun b12 =>
 chk ((!b12) = true → (2 : Int) ≠ 0) <|
 letK (IntKind.wrap .i64 (Int.tdiv i1 2)) fun i15 =>
 atP p0 (!b12) fun a17 =>
 atP (some a17) (!b12) fun a18 =>
 atP (some (Ad.add a18 0)) (!b12) fun a19 =>
 gL (ld1 h a19) (!b12) fun s19 n19 =>
 letK (decide (((n19 : Int) : Int) ≤ i15)) fun b21 =>
 letK (if b12 = true then true else b21) fun b22 =>
 if b22 = true then
  (
  some (.tup [(.int .i64 0), (.bool false)], h)
  )
 else
  (
  atP p0 true fun a24 =>
  gL (ld1 h (Ad.add a24 0)) true fun s26 n26 =>
  letK (IntKind.wrap .i64 (Int.tdiv i1 2)) fun i28 =>
  chk (true = true → 0 ≤ i28 ∧ i28 < (n26 : Int)) <|
  atP (adP s26) true fun a29 =>
  gI .i64 (ld1 h (Ad.add a29 (Int.toNat i28 * 1))) true fun i30 =>
  some (.tup [(.int .i64 i30), (.bool true)], h)
  )
 ) := by kernel_rfl
theorem cf85 : cFn Try.prog 85 = some c85 := by kernel_rfl
theorem e85 (p0 : Option Ad) (i1 : Int) (h : Heap) : TEq (E 85 [(.ptr p0), (.int .i64 i1)] h) (r85 mk0 E p0 i1 h) := (EV_eq (P := Try.prog) (T := T0) rfl cf85 _ h).trans (r85 mk0 E p0 i1 h)
def k86x6 : AC := .ret
def k86x5 : AC := .seq (.mask 64) k86x6
def k86x4 : AC := .mask 7
def k86x3 : AC := .seq (.cond (.tmp 16)
 (.seq (.ops false [
 o 6 (.move (.c (.bool false)))]) k86x5)
  (.skip)) k86x4
def k86x2 : AC := .seq (.ops false [
 o 15 (.move (t 8)),
 o 16 (.un .not (t 15))]) k86x3
def k86x9 : AC := .ret
def k86x8 : AC := .seq (.mask 64) k86x9
def k86x7 : AC := .seq (.ops false [
 o 6 (.move (.c (.bool true)))]) k86x8
def k86x1 : AC := .seq (.ops false [
 o 17 (.move (t 0)),
 o 18 (.nilCheck (t 17)),
 o 19 (.fieldAddr 0 (t 18)),
 o 20 (.load (.cell .sl) (t 19)),
 o 21 (.move (t 1)),
 o 22 (.bin .other .quo (t 21) (c 2)),
 o 23 (.move (t 2)),
 o 24 (.indexAddr 1 (t 20) (t 22)),
 u (.store 1 (t 24) (t 23))]) k86x7
def k86x0 : AC := .seq (.seq (.ops false [
 o 10 (.move (t 0)),
 o 11 (.move (t 1)),
 o 12 (.call 85 [(t 10), (t 11)] [I, (.cell .bool)] .opq),
 o 9 (.move (t 12)),
 o 13 (.extract (t 9) 0),
 o 14 (.extract (t 9) 1),
 o 7 (.move (t 13)),
 o 8 (.move (t 14))]) k86x2) k86x1
def c86 : AFn := ⟨25, [.tmp 6],
 .seq (.ops false [
 o 6 (.move (.c (.bool false)))]) k86x0⟩
theorem r86 (p0 : Option Ad) (i1 i2 : Int) (h : Heap) : runE M C c86 [(.ptr p0), (.int .i64 i1), (.int .i64 i2)] h = (
 (C 85 [(.ptr p0), (.int .i64 i1)] h).bind fun r12 =>
 gT 2 r12.1 true fun u12 =>
 gI .i64 (some (List.getD u12 0 .opq)) true fun i12x0 =>
 gB (some (List.getD u12 1 .opq)) true fun b12x1 =>
 if (!b12x1) = true then
  (
  some ((.bool false), r12.2)
  )
 else
  (
  atP p0 true fun a18 =>
  gL (ld1 r12.2 (Ad.add a18 0)) true fun s20 n20 =>
  letK (IntKind.wrap .i64 (Int.tdiv i1 2)) fun i22 =>
  chk (true = true → 0 ≤ i22 ∧ i22 < (n20 : Int)) <|
  atP (adP s20) true fun a24 =>
  (st1 r12.2 (Ad.add a24 (Int.toNat i22 * 1)) (.int .i64 i2)).bind fun h_2 =>
  some ((.bool true), h_2)
  )
 ) := by kernel_rfl
theorem cf86 : cFn Try.prog 86 = some c86 := by kernel_rfl
theorem e86 (p0 : Option Ad) (i1 i2 : Int) (h : Heap) : TEq (E 86 [(.ptr p0), (.int .i64 i1), (.int .i64 i2)] h) (r86 mk0 E p0 i1 i2 h) := (EV_eq (P := Try.prog) (T := T0) rfl cf86 _ h).trans (r86 mk0 E p0 i1 i2 h)
def k87x3 : AC := .join 15
def k87x2 : AC := .seq (.cond (.tmp 16)
 (.ops false [
 o 17 (.move (t 0)),
 o 18 (.buildSl [(.int .i64 0)] 1 [(0, (c 0))]),
 o 19 (.nilCheck (t 17)),
 o 20 (.fieldAddr 0 (t 19)),
 u (.store 1 (t 20) (t 18))])
  (.skip)) k87x3
def k87x9 : AC := .ret
def k87x8 : AC := .seq (.mask 768) k87x9
def k87x7 : AC := .mask 15
def k87x6 : AC := .seq (.cond (.tmp 33)
 (.seq (.ops false [
 o 8 (.move (c 0)),
 o 9 (.move (.c (.bool false)))]) k87x8)
  (.skip)) k87x7
def k87x19 : AC := .exit 0
def k87x18 : AC := .mask 3377699720528905
def k87x21 : AC := .mask 3377699720528905
def k87x20 : AC := .ops false [
 o 63 (.bin .other .add (t 51) (c 1)),
 o 51 (.move (t 63))]
def k87x17 : AC := .seq (.seq (.block 1 (.ops false [
 o 53 (.move (t 0)),
 o 54 (.move (t 0)),
 o 55 (.nilCheck (t 54)),
 o 56 (.fieldAddr 0 (t 55)),
 o 57 (.load (.cell .sl) (t 56)),
 o 58 (.move (t 3)),
 o 59 (.buildSl [(.int .i64 0)] 1 [(0, (t 58))]),
 o 60 (.append [(.int .i64 0)] 1 8 (t 57) (t 59)),
 o 61 (.nilCheck (t 53)),
 o 62 (.fieldAddr 0 (t 61)),
 u (.store 1 (t 62) (t 60))])) k87x21) k87x20
def k87x16 : AC := .seq (.seq (.cond (.tmp 52)
 (.skip)
 (.seq (.mask 1024) k87x19)) k87x18) k87x17
def k87x15 : AC := .seq (.ops false [
 o 52 (.bin .other .lss (t 51) (t 50))]) k87x16
def k87x14 : AC := .mask 1024
def k87x13 : AC := .seq (.block 0 (.loop 3377699720528905 1024 k87x15)) k87x14
def k87x23 : AC := .ret
def k87x22 : AC := .seq (.mask 768) k87x23
def k87x12 : AC := .seq (.ops false [
 o 64 (.move (t 10)),
 o 8 (.move (t 64)),
 o 9 (.move (.c (.bool true)))]) k87x22
def k87x11 : AC := .seq (.seq (.ops false [
 o 50 (.move (t 2)),
 o 51 (.move (c 0))]) k87x13) k87x12
def k87x10 : AC := .seq (.ops false [
 o 40 (.move (t 0)),
 o 41 (.move (t 0)),
 o 42 (.nilCheck (t 41)),
 o 43 (.fieldAddr 0 (t 42)),
 o 44 (.load (.cell .sl) (t 43)),
 o 45 (.move (t 1)),
 o 46 (.buildSl [(.int .i64 0)] 1 [(0, (t 45))]),
 o 47 (.append [(.int .i64 0)] 1 8 (t 44) (t 46)),
 o 48 (.nilCheck (t 40)),
 o 49 (.fieldAddr 0 (t 48)),
 u (.store 1 (t 49) (t 47))]) k87x11
def k87x5 : AC := .seq (.ops false [
 o 34 (.move (t 0)),
 o 35 (.nilCheck (t 34)),
 o 36 (.fieldAddr 0 (t 35)),
 o 37 (.load (.cell .sl) (t 36)),
 o 38 (.lenSl (t 37)),
 o 39 (.bin .other .mul (c 2) (t 38)),
 o 10 (.move (t 39))]) k87x10
def k87x1 : AC := .seq (.seq (.ops false [
 o 21 (.move (t 0)),
 o 22 (.nilCheck (t 21)),
 o 23 (.fieldAddr 0 (t 22)),
 o 24 (.load (.cell .sl) (t 23)),
 o 25 (.lenSl (t 24)),
 o 26 (.move (t 2)),
 o 27 (.bin .other .add (t 25) (t 26)),
 o 28 (.bin .other .add (t 27) (c 1)),
 o 29 (.move (t 0)),
 o 30 (.nilCheck (t 29)),
 o 31 (.fieldAddr 1 (t 30)),
 o 32 (.load I (t 31)),
 o 33 (.bin .other .gtr (t 28) (t 32))]) k87x6) k87x5
def k87x0 : AC := .seq (.seq (.ops false [
 o 11 (.move (t 0)),
 o 12 (.nilCheck (t 11)),
 o 13 (.fieldAddr 0 (t 12)),
 o 14 (.load (.cell .sl) (t 13)),
 o 15 (.lenSl (t 14)),
 o 16 (.bin .other .eql (t 15) (c 0))]) k87x2) k87x1
def c87 : AFn := ⟨65, [.tmp 8, .tmp 9],
 .seq (.ops false [
 o 8 (.move (c 0)),
 o 9 (.move (.c (.bool false)))]) k87x0⟩
def S87xe0 (i10 : Int) (h : Heap) : St := ⟨(rep 10 (vi i10 :: (rep 54 []))), h⟩
noncomputable def J87x4 (M : Mk) (C : Cal) (p0 : Option Ad) (i1 i2 i3 : Int) (h : Heap) : Res := M (AV × Heap) (seqQ (evalE M C k87x1) (endQ [.tmp 8, .tmp 9])) (vp p0 :: (vi i1 :: (vi i2 :: (vi i3 :: (rep 61 []))))) h
noncomputable def Q87x15 (M : Mk) (C : Cal) : Kont (AV × Heap) := (blockQ 0 (seqQ (evalE M C k87x14) (seqQ (evalE M C k87x12) (endQ [.tmp 8, .tmp 9]))))
noncomputable def L87x15 (p0 : Option Ad) (i3 i10 : Int) (i50 i51 : Int) (h : Heap) (Q : Kont R) : Option R := loopE (evalE M C k87x15) 3377699720528905 1024 ⟨(vp p0 :: (.any :: .any :: (vi i3 :: (rep 6 (vi i10 :: (rep 39 (vi i50 :: (vi i51 :: (rep 13 []))))))))), h⟩ Q
theorem r87 (p0 : Option Ad) (i1 i2 i3 : Int) (h : Heap) : runE M C c87 [(.ptr p0), (.int .i64 i1), (.int .i64 i2), (.int .i64 i3)] h = (
 atP p0 true fun a12 =>
 gL (ld1 h (Ad.add a12 0)) true fun s14 n14 =>
 letK (decide (((n14 : Int) : Int) = 0)) fun b16 =>
 if b16 = true then
  (
  newK h (.cells [(.int .i64 0)] (.grow 1) 0) fun h_2 =>
  atP p0 true fun a19 =>
  (st1 h_2 (Ad.add a19 0) (.sl (.pos ⟨List.length h, 0, 0⟩) 1)).bind fun h_3 =>
  J87x4 M C p0 i1 i2 i3 h_3
  )
 else
  (
  J87x4 M C p0 i1 i2 i3 h
  )
 ) := by kernel_rfl
theorem cf87 : cFn Try.prog 87 = some c87 := by kernel_rfl
theorem e87 (p0 : Option Ad) (i1 i2 i3 : Int) (h : Heap) : TEq (E 87 [(.ptr p0), (.int .i64 i1), (.int .i64 i2), (.int .i64 i3)] h) (r87 mk0 E p0 i1 i2 i3 h) := (EV_eq (P := Try.prog) (T := T0) rfl cf87 _ h).trans (r87 mk0 E p0 i1 i2 i3 h)
theorem J87x4xaux (M : Mk) (C : Cal) (p0 : Option Ad) (i1 i2 i3 : Int) (h : Heap) : (forceK tk (vp p0 :: (vi i1 :: (vi i2 :: (vi i3 :: (rep 61 []))))) fun e => (seqQ (evalE M C k87x1) (endQ [.tmp 8, .tmp 9])) .normal ⟨e, h⟩) = (
 atP p0 true fun a22 =>
 gL (ld1 h (Ad.add a22 0)) true fun s24 n24 =>
 letK (IntKind.wrap .i64 ((n24 : Int) + i2)) fun i27 =>
 letK (IntKind.wrap .i64 (i27 + 1)) fun i28 =>
 atP p0 true fun a30 =>
 gI .i64 (ld1 h (Ad.add a30 1)) true fun i32 =>
 letK (decide (i32 < i28)) fun b33 =>
 if b33 = true then
  (
  some (.tup [(.int .i64 0), (.bool false)], h)
  )
 else
  (
  atP p0 true fun a35 =>
  gL (ld1 h (Ad.add a35 0)) true fun s37 n37 =>
  letK (IntKind.wrap .i64 (2 * (n37 : Int))) fun i39 =>
  atP p0 true fun a42 =>
  gL (ld1 h (Ad.add a42 0)) true fun s44 n44 =>
  newK h (.cells [(.int .i64 i1)] (.grow 1) 0) fun h_2 =>
  (ldSl h_2 (.pos ⟨List.length h, 0, 0⟩) (1 * 1)).bind fun y47 =>
  (apnd h_2 (.sl s44 n44) 1 8 y47 1).bind fun r47 =>
  gL (some r47.1) true fun s47 n47 =>
  atP p0 true fun a48 =>
  (st1 r47.2 (Ad.add a48 0) (.sl s47 n47)).bind fun h_3 =>
  L87x15 M C p0 i3 i39 i2 0 h_3 (Q87x15 M C)
  )
 ) := by kernel_rfl
theorem J87x4xeq (C : Cal) (p0 : Option Ad) (i1 i2 i3 : Int) (h : Heap) : TEq (J87x4 mk0 C p0 i1 i2 i3 h) (J87x4xaux mk0 C p0 i1 i2 i3 h) := join_eqn _ _ h (J87x4xaux mk0 C p0 i1 i2 i3 h)
theorem L87x15xaux (p0 : Option Ad) (i3 i10 : Int) (i50 i51 : Int) (h : Heap) (Q : Kont R) : (restrF 3377699720528905 ⟨(vp p0 :: (.any :: .any :: (vi i3 :: (rep 6 (vi i10 :: (rep 39 (vi i50 :: (vi i51 :: (rep 13 []))))))))), h⟩ fun σ => evalE M C k87x15 σ (roundQ M C k87x15 3377699720528905 1024 Q)) = (
 letK (decide (i51 < i50)) fun b52 =>
 if b52 = true then
  (
  atP p0 true fun a55 =>
  gL (ld1 h (Ad.add a55 0)) true fun s57 n57 =>
  newK h (.cells [(.int .i64 i3)] (.grow 1) 0) fun h_2 =>
  (ldSl h_2 (.pos ⟨List.length h, 0, 0⟩) (1 * 1)).bind fun y60 =>
  (apnd h_2 (.sl s57 n57) 1 8 y60 1).bind fun r60 =>
  gL (some r60.1) true fun s60 n60 =>
  atP p0 true fun a61 =>
  (st1 r60.2 (Ad.add a61 0) (.sl s60 n60)).bind fun h_3 =>
  letK (IntKind.wrap .i64 (i51 + 1)) fun i63 =>
  L87x15 M C p0 i3 i10 i50 i63 h_3 Q
  )
 else
  (
  Q (.exit 0) (S87xe0 i10 h)
  )
 ) := by kernel_rfl
theorem L87x15xeq (p0 : Option Ad) (i3 i10 : Int) (i50 i51 : Int) (h : Heap) (Q : Kont R) : TEq (L87x15 mk0 C p0 i3 i10 i50 i51 h Q) (L87x15xaux mk0 C p0 i3 i10 i50 i51 h Q) := loop_eqn _ _ _ _ _ h Q (by kernel_rfl) (L87x15xaux mk0 C p0 i3 i10 i50 i51 h Q)
theorem X87x15xe0 (i10 : Int) (h : Heap) : Q87x15 M C (.exit 0) (S87xe0 i10 h) = (
 some (.tup [(.int .i64 i10), (.bool true)], h)
 ) := by kernel_rfl
def k88x7 : AC := .ret
def k88x6 : AC := .seq (.mask 768) k88x7
def k88x11 : AC := .ret
def k88x10 : AC := .seq (.mask 768) k88x11
def k88x15 : AC := .ret
def k88x14 : AC := .seq (.mask 768) k88x15
def k88x18 : AC := .join 536871951
def k88x17 : AC := .seq (.cond (.tmp 29)
 (.skip)
 (.ops false [
 o 31 (.bin .other .eql (t 10) (c 5)),
 o 29 (.move (t 31))])) k88x18
def k88x25 : AC := .ret
def k88x24 : AC := .seq (.mask 768) k88x25
def k88x23 : AC := .mask 7
def k88x22 : AC := .seq (.cond (.tmp 33)
 (.seq (.ops false [
 o 8 (.move (c 0)),
 o 9 (.move (.c (.bool false)))]) k88x24)
  (.skip)) k88x23
def k88x30 : AC := .ret
def k88x29 : AC := .seq (.mask 768) k88x30
def k88x28 : AC := .mask 6
def k88x27 : AC := .seq (.cond (.tmp 35)
 (.seq (.ops false [
 o 36 (.move (t 1)),
 o 37 (.move (t 2)),
 o 38 (.bin .other .quo (t 36) (t 37)),
 o 39 (.call 22 [(t 38)] [I] (.int .i64 0)),
 o 8 (.move (t 39)),
 o 9 (.move (.c (.bool true)))]) k88x29)
  (.skip)) k88x28
def k88x32 : AC := .ret
def k88x31 : AC := .seq (.mask 768) k88x32
def k88x26 : AC := .seq (.ops false [
 o 40 (.move (t 1)),
 o 41 (.move (t 1)),
 o 42 (.move (t 2)),
 o 43 (.bin .other .quo (t 41) (t 42)),
 o 44 (.move (t 2)),
 o 45 (.bin .other .mul (t 43) (t 44)),
 o 46 (.bin .other .sub (t 40) (t 45)),
 o 47 (.call 22 [(t 46)] [I] (.int .i64 0)),
 o 8 (.move (t 47)),
 o 9 (.move (.c (.bool true)))]) k88x31
def k88x21 : AC := .seq (.seq (.ops false [
 o 34 (.move (t 0)),
 o 35 (.bin .other .eql (t 34) (c 4))]) k88x27) k88x26
def k88x39 : AC := .ret
def k88x38 : AC := .seq (.mask 768) k88x39
def k88x37 : AC := .mask 0
def k88x36 : AC := .seq (.cond (.tmp 52)
 (.seq (.ops false [
 o 8 (.move (c 1)),
 o 9 (.move (.c (.bool true)))]) k88x38)
  (.skip)) k88x37
def k88x41 : AC := .ret
def k88x40 : AC := .seq (.mask 768) k88x41
def k88x35 : AC := .seq (.ops false [
 o 8 (.move (c 0)),
 o 9 (.move (.c (.bool true)))]) k88x40
def k88x48 : AC := .ret
def k88x47 : AC := .seq (.mask 768) k88x48
def k88x46 : AC := .mask 0
def k88x45 : AC := .seq (.cond (.tmp 57)
 (.seq (.ops false [
 o 8 (.move (c 1)),
 o 9 (.move (.c (.bool true)))]) k88x47)
  (.skip)) k88x46
def k88x50 : AC := .ret
def k88x49 : AC := .seq (.mask 768) k88x50
def k88x44 : AC := .seq (.ops false [
 o 8 (.move (c 0)),
 o 9 (.move (.c (.bool true)))]) k88x49
def k88x54 : AC := .ret
def k88x53 : AC := .seq (.mask 768) k88x54
def k88x64 : AC := .exit 1
def k88x63 : AC := .mask 221360928884514619394
def k88x66 : AC := .mask 221360928884514619394
def k88x65 : AC := .ops false [
 o 73 (.bin .other .add (t 67) (c 1)),
 o 67 (.move (t 73))]
def k88x62 : AC := .seq (.seq (.block 2 (.ops false [
 o 69 (.move (t 1)),
 o 70 (.move (t 1)),
 o 71 (.bin .other .add (t 69) (t 70)),
 o 72 (.call 22 [(t 71)] [I] (.int .i64 0)),
 o 1 (.move (t 72))])) k88x66) k88x65
def k88x61 : AC := .seq (.seq (.cond (.tmp 68)
 (.skip)
 (.seq (.mask 2) k88x64)) k88x63) k88x62
def k88x60 : AC := .seq (.ops false [
 o 68 (.bin .other .lss (t 67) (t 66))]) k88x61
def k88x59 : AC := .mask 2
def k88x58 : AC := .seq (.block 1 (.loop 221360928884514619394 10 k88x60)) k88x59
def k88x68 : AC := .ret
def k88x67 : AC := .seq (.mask 768) k88x68
def k88x57 : AC := .seq (.ops false [
 o 74 (.move (t 1)),
 o 8 (.move (t 74)),
 o 9 (.move (.c (.bool true)))]) k88x67
def k88x78 : AC := .exit 3
def k88x77 : AC := .mask 453347182355485940514818
def k88x80 : AC := .mask 453347182355485940514818
def k88x79 : AC := .ops false [
 o 85 (.bin .other .add (t 78) (c 1)),
 o 78 (.move (t 85))]
def k88x76 : AC := .seq (.seq (.block 4 (.ops false [
 o 80 (.move (t 1)),
 o 81 (.move (t 1)),
 o 82 (.call 33 [(t 81), (c 2)] [I] (.int .i64 0)),
 o 83 (.bin .other .sub (t 80) (t 82)),
 o 84 (.bin .other .quo (t 83) (c 2)),
 o 1 (.move (t 84))])) k88x80) k88x79
def k88x75 : AC := .seq (.seq (.cond (.tmp 79)
 (.skip)
 (.seq (.mask 2) k88x78)) k88x77) k88x76
def k88x74 : AC := .seq (.ops false [
 o 79 (.bin .other .lss (t 78) (t 77))]) k88x75
def k88x73 : AC := .mask 2
def k88x72 : AC := .seq (.block 3 (.loop 453347182355485940514818 10 k88x74)) k88x73
def k88x82 : AC := .ret
def k88x81 : AC := .seq (.mask 768) k88x82
def k88x71 : AC := .seq (.ops false [
 o 86 (.move (t 1)),
 o 8 (.move (t 86)),
 o 9 (.move (.c (.bool true)))]) k88x81
def k88x70 : AC := .mask 8
def k88x69 : AC := .seq (.cond (.tmp 75)
 (.seq (.seq (.ops false [
 o 77 (.move (t 3)),
 o 78 (.move (c 0))]) k88x72) k88x71)
  (.skip)) k88x70
def k88x56 : AC := .mask 8
def k88x55 : AC := .seq (.cond (.tmp 64)
 (.seq (.seq (.ops false [
 o 66 (.move (t 3)),
 o 67 (.move (c 0))]) k88x58) k88x57)
  (.seq (.ops false [
 o 76 (.bin .other .eql (t 10) (c 10)),
 o 75 (.move (t 76))]) k88x69)) k88x56
def k88x52 : AC := .mask 8
def k88x51 : AC := .seq (.cond (.tmp 58)
 (.seq (.ops false [
 o 60 (.move (t 1)),
 o 61 (.move (t 3)),
 o 62 (.bin .other .add (t 60) (t 61)),
 o 63 (.call 22 [(t 62)] [I] (.int .i64 0)),
 o 8 (.move (t 63)),
 o 9 (.move (.c (.bool true)))]) k88x53)
  (.seq (.ops false [
 o 65 (.bin .other .eql (t 10) (c 9)),
 o 64 (.move (t 65))]) k88x55)) k88x52
def k88x43 : AC := .mask 8
def k88x42 : AC := .seq (.cond (.tmp 53)
 (.seq (.seq (.ops false [
 o 55 (.move (t 1)),
 o 56 (.move (t 2)),
 o 57 (.bin .other .eql (t 55) (t 56))]) k88x45) k88x44)
  (.seq (.ops false [
 o 59 (.bin .other .eql (t 10) (c 8)),
 o 58 (.move (t 59))]) k88x51)) k88x43
def k88x34 : AC := .mask 8
def k88x33 : AC := .seq (.cond (.tmp 48)
 (.seq (.seq (.ops false [
 o 50 (.move (t 1)),
 o 51 (.move (t 2)),
 o 52 (.bin .other .lss (t 50) (t 51))]) k88x36) k88x35)
  (.seq (.ops false [
 o 54 (.bin .other .eql (t 10) (c 7)),
 o 53 (.move (t 54))]) k88x42)) k88x34
def k88x20 : AC := .mask 8
def k88x16 : AC := .seq (.cond (.tmp 29)
 (.seq (.seq (.ops false [
 o 32 (.move (t 2)),
 o 33 (.bin .other .eql (t 32) (c 0))]) k88x22) k88x21)
  (.seq (.ops false [
 o 49 (.bin .other .eql (t 10) (c 6)),
 o 48 (.move (t 49))]) k88x33)) k88x20
def k88x13 : AC := .mask 8
def k88x12 : AC := .seq (.cond (.tmp 23)
 (.seq (.ops false [
 o 25 (.move (t 1)),
 o 26 (.move (t 2)),
 o 27 (.bin .other .mul (t 25) (t 26)),
 o 28 (.call 22 [(t 27)] [I] (.int .i64 0)),
 o 8 (.move (t 28)),
 o 9 (.move (.c (.bool true)))]) k88x14)
  (.seq (.seq (.ops false [
 o 30 (.bin .other .eql (t 10) (c 4)),
 o 29 (.move (t 30))]) k88x17) k88x16)) k88x13
def k88x9 : AC := .mask 8
def k88x8 : AC := .seq (.cond (.tmp 17)
 (.seq (.ops false [
 o 19 (.move (t 1)),
 o 20 (.move (t 2)),
 o 21 (.bin .other .sub (t 19) (t 20)),
 o 22 (.call 22 [(t 21)] [I] (.int .i64 0)),
 o 8 (.move (t 22)),
 o 9 (.move (.c (.bool true)))]) k88x10)
  (.seq (.ops false [
 o 24 (.bin .other .eql (t 10) (c 3)),
 o 23 (.move (t 24))]) k88x12)) k88x9
def k88x5 : AC := .mask 8
def k88x4 : AC := .seq (.cond (.tmp 11)
 (.seq (.ops false [
 o 13 (.move (t 1)),
 o 14 (.move (t 2)),
 o 15 (.bin .other .add (t 13) (t 14)),
 o 16 (.call 22 [(t 15)] [I] (.int .i64 0)),
 o 8 (.move (t 16)),
 o 9 (.move (.c (.bool true)))]) k88x6)
  (.seq (.ops false [
 o 18 (.bin .other .eql (t 10) (c 2)),
 o 17 (.move (t 18))]) k88x8)) k88x5
def k88x3 : AC := .mask 8
def k88x2 : AC := .seq (.block 0 (.seq (.ops false [
 o 12 (.bin .other .eql (t 10) (c 1)),
 o 11 (.move (t 12))]) k88x4)) k88x3
def k88x84 : AC := .ret
def k88x83 : AC := .seq (.mask 768) k88x84
def k88x1 : AC := .seq (.ops false [
 o 87 (.move (t 3)),
 o 8 (.move (t 87)),
 o 9 (.move (.c (.bool true)))]) k88x83
def k88x0 : AC := .seq (.seq (.ops false [
 o 10 (.move (t 0))]) k88x2) k88x1
def c88 : AFn := ⟨88, [.tmp 8, .tmp 9],
 .seq (.ops false [
 o 8 (.move (c 0)),
 o 9 (.move (.c (.bool false)))]) k88x0⟩
def S88xe1 (i1 : Int) (h : Heap) : St := ⟨(.any :: (vi i1 :: (rep 86 []))), h⟩
def S88xe3 (i1 : Int) (h : Heap) : St := ⟨(.any :: (vi i1 :: (rep 86 []))), h⟩
noncomputable def J88x19 (M : Mk) (C : Cal) (i0 i1 : Int) (i2 i3 i10 : Int) (b29 : Bool) (h : Heap) : Res := M (AV × Heap) (seqQ (evalE M C k88x16) (seqQ (evalE M C k88x13) (seqQ (evalE M C k88x9) (seqQ (evalE M C k88x5) (blockQ 0 (seqQ (evalE M C k88x3) (seqQ (evalE M C k88x1) (endQ [.tmp 8, .tmp 9])))))))) (vi i0 :: (vi i1 :: (vi i2 :: (vi i3 :: (rep 6 (vi i10 :: (rep 18 (vb b29 :: (rep 58 []))))))))) h
noncomputable def Q88x60 (M : Mk) (C : Cal) : Kont (AV × Heap) := (blockQ 1 (seqQ (evalE M C k88x59) (seqQ (evalE M C k88x57) (seqQ (evalE M C k88x56) (seqQ (evalE M C k88x52) (seqQ (evalE M C k88x43) (seqQ (evalE M C k88x34) (seqQ (evalE M C k88x20) (seqQ (evalE M C k88x13) (seqQ (evalE M C k88x9) (seqQ (evalE M C k88x5) (blockQ 0 (seqQ (evalE M C k88x3) (seqQ (evalE M C k88x1) (endQ [.tmp 8, .tmp 9])))))))))))))))
noncomputable def L88x60 (i1 i66 i67 : Int) (h : Heap) (Q : Kont R) : Option R := loopE (evalE M C k88x60) 221360928884514619394 10 ⟨(.any :: (vi i1 :: (rep 64 (vi i66 :: (vi i67 :: (rep 20 [])))))), h⟩ Q
noncomputable def Q88x74 (M : Mk) (C : Cal) : Kont (AV × Heap) := (blockQ 3 (seqQ (evalE M C k88x73) (seqQ (evalE M C k88x71) (seqQ (evalE M C k88x70) (seqQ (evalE M C k88x56) (seqQ (evalE M C k88x52) (seqQ (evalE M C k88x43) (seqQ (evalE M C k88x34) (seqQ (evalE M C k88x20) (seqQ (evalE M C k88x13) (seqQ (evalE M C k88x9) (seqQ (evalE M C k88x5) (blockQ 0 (seqQ (evalE M C k88x3) (seqQ (evalE M C k88x1) (endQ [.tmp 8, .tmp 9]))))))))))))))))
noncomputable def L88x74 (i1 i77 i78 : Int) (h : Heap) (Q : Kont R) : Option R := loopE (evalE M C k88x74) 453347182355485940514818 10 ⟨(.any :: (vi i1 :: (rep 75 (vi i77 :: (vi i78 :: (rep 9 [])))))), h⟩ Q
theorem r88 (i0 i1 : Int) (i2 i3 : Int) (h : Heap) : runE M C c88 [(.int .i64 i0), (.int .i64 i1), (.int .i64 i2), (.int .i64 i3)] h = (
 letK (decide (i0 = 1)) fun b12 =>
 if b12 = true then
  (
  letK (IntKind.wrap .i64 (i1 + i2)) fun i15 =>
  (C 22 [(.int .i64 i15)] h).bind fun r16 =>
  gI .i64 (some r16.1) true fun i16 =>
  some (.tup [(.int .i64 i16), (.bool true)], r16.2)
  )
 else
  (
  letK (decide (i0 = 2)) fun b18 =>
  if b18 = true then
   (
   letK (IntKind.wrap .i64 (i1 - i2)) fun i21 =>
   (C 22 [(.int .i64 i21)] h).bind fun r22 =>
   gI .i64 (some r22.1) true fun i22 =>
   some (.tup [(.int .i64 i22), (.bool true)], r22.2)
   )
  else
   (
   letK (decide (i0 = 3)) fun b24 =>
   if b24 = true then
    (
    letK (IntKind.wrap .i64 (i1 * i2)) fun i27 =>
    (C 22 [(.int .i64 i27)] h).bind fun r28 =>
    gI .i64 (some r28.1) true fun i28 =>
    some (.tup [(.int .i64 i28), (.bool true)], r28.2)
    )
   else
    (
    letK (decide (i0 = 4)) fun b30 =>
    if b30 = true then
     (
     J88x19 M C i0 i1 i2 i3 i0 b30 h
     )
    else
     (
     letK (decide (i0 = 5)) fun b31 =>
     J88x19 M C i0 i1 i2 i3 i0 b31 h
     )
    )
   )
  )
 ) := by kernel_rfl
theorem cf88 : cFn Try.prog 88 = some c88 := by kernel_rfl
theorem e88 (i0 i1 : Int) (i2 i3 : Int) (h : Heap) : TEq (E 88 [(.int .i64 i0), (.int .i64 i1), (.int .i64 i2), (.int .i64 i3)] h) (r88 mk0 E i0 i1 i2 i3 h) := (EV_eq (P := Try.prog) (T := T0) rfl cf88 _ h).trans (r88 mk0 E i0 i1 i2 i3 h)
theorem J88x19xaux (M : Mk) (C : Cal) (i0 i1 : Int) (i2 i3 i10 : Int) (b29 : Bool) (h : Heap) : (forceK tk (vi i0 :: (vi i1 :: (vi i2 :: (vi i3 :: (rep 6 (vi i10 :: (rep 18 (vb b29 :: (rep 58 []))))))))) fun e => (seqQ (evalE M C k88x16) (seqQ (evalE M C k88x13) (seqQ (evalE M C k88x9) (seqQ (evalE M C k88x5) (blockQ 0 (seqQ (evalE M C k88x3) (seqQ (evalE M C k88x1) (endQ [.tmp 8, .tmp 9])))))))) .normal ⟨e, h⟩) = (
 if b29 = true then
  (
  letK (decide (i2 = 0)) fun b33 =>
  if b33 = true then
   (
   some (.tup [(.int .i64 0), (.bool false)], h)
   )
  else
   (
   letK (decide (i0 = 4)) fun b35 =>
   if b35 = true then
    (
    chk (true = true → i2 ≠ 0) <|
    letK (IntKind.wrap .i64 (Int.tdiv i1 i2)) fun i38 =>
    (C 22 [(.int .i64 i38)] h).bind fun r39 =>
    gI .i64 (some r39.1) true fun i39 =>
    some (.tup [(.int .i64 i39), (.bool true)], r39.2)
    )
   else
    (
    chk (true = true → i2 ≠ 0) <|
    letK (IntKind.wrap .i64 (Int.tdiv i1 i2)) fun i43 =>
    letK (IntKind.wrap .i64 (i43 * i2)) fun i45 =>
    letK (IntKind.wrap .i64 (i1 - i45)) fun i46 =>
    (C 22 [(.int .i64 i46)] h).bind fun r47 =>
    gI .i64 (some r47.1) true fun i47 =>
    some (.tup [(.int .i64 i47), (.bool true)], r47.2)
    )
   )
  )
 else
  (
  letK (decide (i10 = 6)) fun b49 =>
  if b49 = true then
   (
   letK (decide (i1 < i2)) fun b52 =>
   if b52 = true then
    (
    some (.tup [(.int .i64 1), (.bool true)], h)
    )
   else
    (
    some (.tup [(.int .i64 0), (.bool true)], h)
    )
   )
  else
   (
   letK (decide (i10 = 7)) fun b54 =>
   if b54 = true then
    (
    letK (decide (i1 = i2)) fun b57 =>
    if b57 = true then
     (
     some (.tup [(.int .i64 1), (.bool true)], h)
     )
    else
     (
     some (.tup [(.int .i64 0), (.bool true)], h)
     )
    )
   else
    (
    letK (decide (i10 = 8)) fun b59 =>
    if b59 = true then
     (
     letK (IntKind.wrap .i64 (i1 + i3)) fun i62 =>
     (C 22 [(.int .i64 i62)] h).bind fun r63 =>
     gI .i64 (some r63.1) true fun i63 =>
     some (.tup [(.int .i64 i63), (.bool true)], r63.2)
     )
    else
     (
     letK (decide (i10 = 9)) fun b65 =>
     if b65 = true then
      (
      L88x60 M C i1 i3 0 h (Q88x60 M C)
      )
     else
      (
      letK (decide (i10 = 10)) fun b76 =>
      if b76 = true then
       (
       L88x74 M C i1 i3 0 h (Q88x74 M C)
       )
      else
       (
       some (.tup [(.int .i64 i3), (.bool true)], h)
       )
      )
     )
    )
   )
  )
 ) := by kernel_rfl
theorem J88x19xeq (C : Cal) (i0 i1 : Int) (i2 i3 i10 : Int) (b29 : Bool) (h : Heap) : TEq (J88x19 mk0 C i0 i1 i2 i3 i10 b29 h) (J88x19xaux mk0 C i0 i1 i2 i3 i10 b29 h) := join_eqn _ _ h (J88x19xaux mk0 C i0 i1 i2 i3 i10 b29 h)
theorem L88x60xaux (i1 i66 i67 : Int) (h : Heap) (Q : Kont R) : (restrF 221360928884514619394 ⟨(.any :: (vi i1 :: (rep 64 (vi i66 :: (vi i67 :: (rep 20 [])))))), h⟩ fun σ => evalE M C k88x60 σ (roundQ M C k88x60 221360928884514619394 10 Q)) = (
 letK (decide (i67 < i66)) fun b68 =>
 if b68 = true then
  (
  letK (IntKind.wrap .i64 (i1 + i1)) fun i71 =>
  (C 22 [(.int .i64 i71)] h).bind fun r72 =>
  gI .i64 (some r72.1) true fun i72 =>
  letK (IntKind.wrap .i64 (i67 + 1)) fun i73 =>
  L88x60 M C i72 i66 i73 r72.2 Q
  )
 else
  (
  Q (.exit 1) (S88xe1 i1 h)
  )
 ) := by kernel_rfl
theorem L88x60xeq (i1 i66 i67 : Int) (h : Heap) (Q : Kont R) : TEq (L88x60 mk0 C i1 i66 i67 h Q) (L88x60xaux mk0 C i1 i66 i67 h Q) := loop_eqn _ _ _ _ _ h Q (by kernel_rfl) (L88x60xaux mk0 C i1 i66 i67 h Q)
theorem L88x74xaux (i1 i77 i78 : Int) (h : Heap) (Q : Kont R) : (restrF 453347182355485940514818 ⟨(.any :: (vi i1 :: (rep 75 (vi i77 :: (vi i78 :: (rep 9 [])))))), h⟩ fun σ => evalE M C k88x74 σ (roundQ M C k88x74 453347182355485940514818 10 Q)) = (
 letK (decide (i78 < i77)) fun b79 =>
 if b79 = true then
  (
  (C 33 [(.int .i64 i1), (.int .i64 2)] h).bind fun r82 =>
  gI .i64 (some r82.1) true fun i82 =>
  letK (IntKind.wrap .i64 (i1 - i82)) fun i83 =>
  letK (IntKind.wrap .i64 (Int.tdiv i83 2)) fun i84 =>
  letK (IntKind.wrap .i64 (i78 + 1)) fun i85 =>
  L88x74 M C i84 i77 i85 r82.2 Q
  )
 else
  (
  Q (.exit 3) (S88xe3 i1 h)
  )
 ) := by kernel_rfl
theorem L88x74xeq (i1 i77 i78 : Int) (h : Heap) (Q : Kont R) : TEq (L88x74 mk0 C i1 i77 i78 h Q) (L88x74xaux mk0 C i1 i77 i78 h Q) := loop_eqn _ _ _ _ _ h Q (by kernel_rfl) (L88x74xaux mk0 C i1 i77 i78 h Q)
theorem X88x60xe1 (i1 : Int) (h : Heap) : Q88x60 M C (.exit 1) (S88xe1 i1 h) = (
 some (.tup [(.int .i64 i1), (.bool true)], h)
 ) := by kernel_rfl
theorem X88x74xe3 (i1 : Int) (h : Heap) : Q88x74 M C (.exit 3) (S88xe3 i1 h) = (
 some (.tup [(.int .i64 i1), (.bool true)], h)
 ) := by kernel_rfl
def k56x6 : AC := .ret
def k56x5 : AC := .seq (.mask 0) k56x6
def k56x4 : AC := .mask 35
def k56x3 : AC := .seq (.cond (.tmp 26)
 (.seq (.ops false [
 o 27 (.move (t 0)),
 o 28 (.call 55 [(t 27)] [] .opq)]) k56x5)
  (.skip)) k56x4
def k56x2 : AC := .seq (.ops false [
 o 22 (.move (t 0)),
 o 23 (.nilCheck (t 22)),
 o 24 (.fieldAddr 3 (t 23)),
 o 25 (.load I (t 24)),
 o 26 (.bin .other .lss (t 25) (c 0))]) k56x3
def k56x18 : AC := .join 18446745173221180387
def k56x17 : AC := .seq (.cond (.tmp 64)
 (.skip)
 (.ops false [
 o 66 (.bin .other .eql (t 40) (c 102)),
 o 64 (.move (t 66))])) k56x18
def k56x29 : AC := .exit 1
def k56x28 : AC := .mask 2066035336255469782627
def k56x32 : AC := .ops false [
 o 74 (.move (t 10)),
 o 75 (.move (t 1)),
 o 76 (.move (t 12)),
 o 77 (.indexAddr 1 (t 75) (t 76)),
 o 78 (.load I (t 77)),
 o 79 (.buildSl [(.int .i64 0)] 1 [(0, (t 78))]),
 o 80 (.append [(.int .i64 0)] 1 8 (t 74) (t 79)),
 o 10 (.move (t 80))]
def k56x31 : AC := .mask 2066035336255469782627
def k56x30 : AC := .ops false [
 o 81 (.bin .other .add (t 70) (c 1)),
 o 70 (.move (t 81))]
def k56x27 : AC := .seq (.seq (.block 2 (.seq (.ops false [
 o 72 (.indexAddr 1 (t 68) (t 70)),
 o 73 (.load I (t 72)),
 o 12 (.move (t 73))]) k56x32)) k56x31) k56x30
def k56x26 : AC := .seq (.seq (.cond (.tmp 71)
 (.skip)
 (.seq (.mask 1635) k56x29)) k56x28) k56x27
def k56x25 : AC := .seq (.ops false [
 o 71 (.bin .other .lss (t 70) (t 69))]) k56x26
def k56x24 : AC := .mask 1635
def k56x23 : AC := .seq (.block 1 (.loop 2066035336255469782627 1891 k56x25)) k56x24
def k56x36 : AC := .join 9763
def k56x35 : AC := .seq (.cond (.tmp 86)
 (.ops false [
 o 87 (.move (t 6)),
 o 13 (.move (t 87))])
  (.skip)) k56x36
def k56x34 : AC := .ops false [
 o 88 (.move (t 0)),
 o 89 (.move (t 13)),
 o 90 (.move (t 10)),
 o 91 (.call 23 [(t 88), (t 89), (t 90)] [I] (.int .i64 0)),
 o 8 (.move (t 91))]
def k56x33 : AC := .seq (.seq (.ops false [
 o 84 (.fieldAddr 0 (t 5)),
 o 85 (.load I (t 84)),
 o 86 (.bin .other .eql (t 85) (c 102))]) k56x35) k56x34
def k56x22 : AC := .seq (.ops false [
 o 82 (.fieldAddr 4 (t 5)),
 o 83 (.load I (t 82)),
 o 13 (.move (t 83))]) k56x33
def k56x21 : AC := .seq (.seq (.ops false [
 o 67 (.fieldAddr 5 (t 5)),
 o 68 (.load (.cell .sl) (t 67)),
 o 69 (.lenSl (t 68)),
 o 70 (.move (c 0))]) k56x23) k56x22
def k56x50 : AC := .ret
def k56x49 : AC := .seq (.mask 0) k56x50
def k56x48 : AC := .mask 227
def k56x47 : AC := .seq (.cond (.tmp 135)
 (.seq (.ops false [
 o 136 (.move (t 0)),
 o 137 (.call 57 [(t 136), (c 6)] [] .opq)]) k56x49)
  (.skip)) k56x48
def k56x46 : AC := .ops false [
 o 139 (.move (t 0)),
 o 140 (.nilCheck (t 139)),
 o 141 (.fieldAddr 1 (t 140)),
 o 142 (.move (t 6)),
 o 143 (.bin .other .add (c 1052672) (t 142)),
 o 144 (.bin .other .mul (t 143) (c 2)),
 o 145 (.bin .other .add (t 144) (c 1)),
 o 146 (.move (t 6)),
 o 147 (.move (t 7)),
 o 148 (.call 87 [(t 141), (t 145), (t 146), (t 147)] [I, (.cell .bool)] .opq),
 o 138 (.move (t 148)),
 o 149 (.extract (t 138) 0),
 o 150 (.extract (t 138) 1),
 o 8 (.move (t 149)),
 o 9 (.move (t 150))]
def k56x57 : AC := .ret
def k56x56 : AC := .seq (.mask 0) k56x57
def k56x55 : AC := .mask 355
def k56x54 : AC := .seq (.cond (.tmp 158)
 (.seq (.ops false [
 o 159 (.move (t 0)),
 o 160 (.call 57 [(t 159), (c 6)] [] .opq)]) k56x56)
  (.skip)) k56x55
def k56x58 : AC := .ops false [
 o 175 (.move (t 6)),
 o 176 (.call 33 [(t 175), (c 2)] [I] (.int .i64 0)),
 o 177 (.bin .other .eql (t 176) (c 1)),
 o 9 (.move (t 177))]
def k56x53 : AC := .seq (.ops false [
 o 161 (.move (t 0)),
 o 162 (.move (t 0)),
 o 163 (.nilCheck (t 162)),
 o 164 (.fieldAddr 4 (t 163)),
 o 165 (.load (.cell .sl) (t 164)),
 o 166 (.move (t 6)),
 o 167 (.move (t 6)),
  ⟨(some 168), .call 33 [(.tmp 167), (.c (.int .i64 2))] [(.cell (.int .i64))] (.int .i64 0), none, [.load 1 164 none]⟩,
 o 169 (.bin .other .sub (t 166) (t 168)),
 o 170 (.bin .other .quo (t 169) (c 2)),
 o 171 (.buildSl [(.int .i64 0)] 1 [(0, (t 170))]),
 o 172 (.append [(.int .i64 0)] 1 8 (t 165) (t 171)),
 o 173 (.nilCheck (t 161)),
 o 174 (.fieldAddr 4 (t 173)),
 u (.store 1 (t 174) (t 172))]) k56x58
def k56x63 : AC := .ret
def k56x62 : AC := .seq (.mask 0) k56x63
def k56x61 : AC := .mask 803
def k56x60 : AC := .seq (.cond (.tmp 52)
 (.seq (.ops false [
 o 53 (.move (t 0)),
 o 54 (.call 57 [(t 53), (c 1)] [] .opq)]) k56x62)
  (.skip)) k56x61
def k56x59 : AC := .seq (.ops false [
 o 51 (.move (t 9)),
 o 52 (.un .not (t 51))]) k56x60
def k56x52 : AC := .join 803
def k56x51 : AC := .seq (.cond (.tmp 151)
 (.seq (.seq (.ops false [
 o 153 (.move (t 0)),
 o 154 (.nilCheck (t 153)),
 o 155 (.fieldAddr 4 (t 154)),
 o 156 (.load (.cell .sl) (t 155)),
 o 157 (.lenSl (t 156)),
 o 158 (.bin .other .geq (t 157) (c 1000))]) k56x54) k56x53)
  (.seq (.ops false [
 o 42 (.fieldAddr 0 (t 5)),
 o 43 (.load I (t 42)),
 o 44 (.move (t 6)),
 o 45 (.move (t 7)),
 o 46 (.fieldAddr 4 (t 5)),
 o 47 (.load I (t 46)),
 o 48 (.call 88 [(t 43), (t 44), (t 45), (t 47)] [I, (.cell .bool)] .opq),
 o 41 (.move (t 48)),
 o 49 (.extract (t 41) 0),
 o 50 (.extract (t 41) 1),
 o 8 (.move (t 49)),
 o 9 (.move (t 50))]) k56x59)) k56x52
def k56x45 : AC := .join 803
def k56x44 : AC := .seq (.cond (.tmp 128)
 (.seq (.seq (.ops true [
 o 130 (.move (t 6)),
 o 131 (.bin .other .lss (t 130) (c 0)),
 o 132 (.move (t 131)),
 f 133 132 (.move (t 6)),
 f 134 132 (.bin .other .gtr (t 133) (c 1024)),
 o 135 (.pick (t 132) (.c (.bool true)) (t 134))]) k56x47) k56x46)
  (.seq (.ops false [
 o 152 (.bin .other .eql (t 40) (c 23)),
 o 151 (.move (t 152))]) k56x51)) k56x45
def k56x43 : AC := .join 803
def k56x42 : AC := .seq (.cond (.tmp 116)
 (.ops false [
 o 119 (.move (t 0)),
 o 120 (.nilCheck (t 119)),
 o 121 (.fieldAddr 1 (t 120)),
 o 122 (.move (t 7)),
 o 123 (.fieldAddr 4 (t 5)),
 o 124 (.load I (t 123)),
 o 125 (.call 87 [(t 121), (t 122), (t 124), (c 1)] [I, (.cell .bool)] .opq),
 o 118 (.move (t 125)),
 o 126 (.extract (t 118) 0),
 o 127 (.extract (t 118) 1),
 o 8 (.move (t 126)),
 o 9 (.move (t 127))])
  (.seq (.ops false [
 o 129 (.bin .other .eql (t 40) (c 15)),
 o 128 (.move (t 129))]) k56x44)) k56x43
def k56x41 : AC := .join 803
def k56x40 : AC := .seq (.cond (.tmp 105)
 (.ops false [
 o 107 (.move (t 0)),
 o 108 (.nilCheck (t 107)),
 o 109 (.fieldAddr 1 (t 108)),
 o 110 (.move (t 6)),
 o 111 (.fieldAddr 4 (t 5)),
 o 112 (.load I (t 111)),
 o 113 (.bin .other .add (t 110) (t 112)),
 o 114 (.move (t 7)),
 o 115 (.call 86 [(t 109), (t 113), (t 114)] [(.cell .bool)] (.bool false)),
 o 9 (.move (t 115))])
  (.seq (.ops false [
 o 117 (.bin .other .eql (t 40) (c 14)),
 o 116 (.move (t 117))]) k56x42)) k56x41
def k56x39 : AC := .join 803
def k56x38 : AC := .seq (.cond (.tmp 92)
 (.ops false [
 o 95 (.move (t 0)),
 o 96 (.nilCheck (t 95)),
 o 97 (.fieldAddr 1 (t 96)),
 o 98 (.move (t 6)),
 o 99 (.fieldAddr 4 (t 5)),
 o 100 (.load I (t 99)),
 o 101 (.bin .other .add (t 98) (t 100)),
 o 102 (.call 85 [(t 97), (t 101)] [I, (.cell .bool)] .opq),
 o 94 (.move (t 102)),
 o 103 (.extract (t 94) 0),
 o 104 (.extract (t 94) 1),
 o 8 (.move (t 103)),
 o 9 (.move (t 104))])
  (.seq (.ops false [
 o 106 (.bin .other .eql (t 40) (c 13)),
 o 105 (.move (t 106))]) k56x40)) k56x39
def k56x20 : AC := .join 803
def k56x16 : AC := .seq (.cond (.tmp 64)
 (.seq (.ops false [
 o 10 (.move (.c (.sl .nil 0)))]) k56x21)
  (.seq (.ops false [
 o 93 (.bin .other .eql (t 40) (c 12)),
 o 92 (.move (t 93))]) k56x38)) k56x20
def k56x15 : AC := .join 803
def k56x14 : AC := .seq (.cond (.tmp 58)
 (.ops false [
 o 60 (.fieldAddr 4 (t 5)),
 o 61 (.load I (t 60)),
 o 62 (.bin .other .mul (c 2) (t 61)),
 o 63 (.bin .other .add (t 62) (c 1)),
 o 8 (.move (t 63))])
  (.seq (.seq (.ops false [
 o 65 (.bin .other .eql (t 40) (c 101)),
 o 64 (.move (t 65))]) k56x17) k56x16)) k56x15
def k56x13 : AC := .join 803
def k56x12 : AC := .seq (.cond (.tmp 55)
 (.ops false [
 o 57 (.move (t 6)),
 o 8 (.move (t 57))])
  (.seq (.ops false [
 o 59 (.bin .other .eql (t 40) (c 103)),
 o 58 (.move (t 59))]) k56x14)) k56x13
def k56x11 : AC := .mask 803
def k56x10 : AC := .seq (.block 0 (.seq (.ops false [
 o 56 (.bin .other .eql (t 40) (c 100)),
 o 55 (.move (t 56))]) k56x12)) k56x11
def k56x76 : AC := .ret
def k56x75 : AC := .seq (.mask 0) k56x76
def k56x74 : AC := .mask 290
def k56x73 : AC := .seq (.cond (.tmp 179)
 (.seq (.ops false [
 o 180 (.move (t 0)),
 o 181 (.call 55 [(t 180)] [] .opq)]) k56x75)
  (.skip)) k56x74
def k56x79 : AC := .join 0
def k56x78 : AC := .seq (.cond (.tmp 185)
 (.ops false [
 o 186 (.move (t 1)),
 o 187 (.move (t 14)),
 o 188 (.move (t 8)),
 o 189 (.indexAddr 1 (t 186) (t 187)),
 u (.store 1 (t 189) (t 188))])
  (.skip)) k56x79
def k56x77 : AC := .seq (.ops false [
 o 184 (.move (t 14)),
 o 185 (.bin .other .neq (t 184) (c 0))]) k56x78
def k56x72 : AC := .seq (.ops false [
 o 182 (.load (.agg [(.int .i64), (.int .i64), (.int .i64), (.int .i64), (.int .i64), .sl]) (t 5)),
 o 183 (.call 45 [(t 182)] [I] (.int .i64 0)),
 o 14 (.move (t 183))]) k56x77
def k56x9 : AC := .seq (.seq (.ops false [
 o 178 (.move (t 9)),
 o 179 (.un .not (t 178))]) k56x73) k56x72
def k56x8 : AC := .seq (.seq (.ops false [
 o 39 (.fieldAddr 0 (t 5)),
 o 40 (.load I (t 39))]) k56x10) k56x9
def k56x7 : AC := .seq (.ops false [
 o 8 (.move (c 0)),
 o 9 (.move (.c (.bool true)))]) k56x8
def k56x1 : AC := .seq (.ops false [
 o 29 (.move (t 1)),
 o 30 (.fieldAddr 2 (t 5)),
 o 31 (.load I (t 30)),
 o 32 (.indexAddr 1 (t 29) (t 31)),
 o 33 (.load I (t 32)),
 o 34 (.move (t 1)),
 o 35 (.fieldAddr 3 (t 5)),
 o 36 (.load I (t 35)),
 o 37 (.indexAddr 1 (t 34) (t 36)),
 o 38 (.load I (t 37)),
 o 6 (.move (t 33)),
 o 7 (.move (t 38))]) k56x7
def k56x0 : AC := .seq (.seq (.ops false [
 o 15 (.move (t 0)),
 o 16 (.nilCheck (t 15)),
 o 17 (.fieldAddr 3 (t 16)),
 o 18 (.load I (t 17)),
 o 19 (.bin .other .sub (t 18) (c 1)),
 o 20 (.nilCheck (t 15)),
 o 21 (.fieldAddr 3 (t 20)),
 u (.store 1 (t 21) (t 19))]) k56x2) k56x1
def c56 : AFn := ⟨190, [],
 .seq (.ops false [
 o 5 (.boxL (t 2))]) k56x0⟩
noncomputable def J56x71 (M : Mk) (C : Cal) (p0 : Option Ad) (s1 : SA) (n1 : Nat) (i5x0 i5x1 : Int) (i5x2 i5x3 i5x4 : Int) (s5x5 : SA) (n5x5 : Nat) (i8 : Int) (b9 : Bool) (h : Heap) : Res := M (AV × Heap) (blockQ 0 (seqQ (evalE M C k56x11) (seqQ (evalE M C k56x9) (endQ [])))) (vp p0 :: (vl s1 n1 :: (rep 3 (.box [(.int .i64 i5x0), (.int .i64 i5x1), (.int .i64 i5x2), (.int .i64 i5x3), (.int .i64 i5x4), (.sl s5x5 n5x5)] :: (.any :: .any :: (vi i8 :: (vb b9 :: (rep 180 [])))))))) h
noncomputable def J56x70 (M : Mk) (C : Cal) (p0 : Option Ad) (s1 : SA) (n1 : Nat) (i5x0 i5x1 : Int) (i5x2 i5x3 i5x4 : Int) (s5x5 : SA) (n5x5 : Nat) (i8 : Int) (b9 : Bool) (h : Heap) : Res := M (AV × Heap) (seqQ (evalE M C k56x13) (blockQ 0 (seqQ (evalE M C k56x11) (seqQ (evalE M C k56x9) (endQ []))))) (vp p0 :: (vl s1 n1 :: (rep 3 (.box [(.int .i64 i5x0), (.int .i64 i5x1), (.int .i64 i5x2), (.int .i64 i5x3), (.int .i64 i5x4), (.sl s5x5 n5x5)] :: (.any :: .any :: (vi i8 :: (vb b9 :: (rep 180 [])))))))) h
noncomputable def J56x19 (M : Mk) (C : Cal) (p0 : Option Ad) (s1 : SA) (n1 : Nat) (i5x0 i5x1 : Int) (i5x2 i5x3 i5x4 : Int) (s5x5 : SA) (n5x5 : Nat) (i6 i7 i8 : Int) (b9 : Bool) (i40 : Int) (b64 : Bool) (h : Heap) : Res := M (AV × Heap) (seqQ (evalE M C k56x16) (seqQ (evalE M C k56x15) (seqQ (evalE M C k56x13) (blockQ 0 (seqQ (evalE M C k56x11) (seqQ (evalE M C k56x9) (endQ []))))))) (vp p0 :: (vl s1 n1 :: (rep 3 (.box [(.int .i64 i5x0), (.int .i64 i5x1), (.int .i64 i5x2), (.int .i64 i5x3), (.int .i64 i5x4), (.sl s5x5 n5x5)] :: (vi i6 :: (vi i7 :: (vi i8 :: (vb b9 :: (rep 30 (vi i40 :: (rep 23 (vb b64 :: (rep 125 []))))))))))))) h
noncomputable def J56x80 (M : Mk) (C : Cal) (h : Heap) : Res := M (AV × Heap) (endQ []) (rep 190 []) h
noncomputable def Q56x25 (M : Mk) (C : Cal) : Kont (AV × Heap) := (blockQ 1 (seqQ (evalE M C k56x24) (seqQ (evalE M C k56x22) (seqQ (evalE M C k56x20) (seqQ (evalE M C k56x15) (seqQ (evalE M C k56x13) (blockQ 0 (seqQ (evalE M C k56x11) (seqQ (evalE M C k56x9) (endQ []))))))))))
noncomputable def L56x25 (p0 : Option Ad) (s1 : SA) (n1 : Nat) (i5x0 i5x1 : Int) (i5x2 i5x3 i5x4 : Int) (s5x5 : SA) (n5x5 : Nat) (i6 : Int) (b9 : Bool) (s10 : SA) (n10 : Nat) (s68 : SA) (n68 : Nat) (i69 i70 : Int) (h : Heap) (Q : Kont R) : Option R := loopE (evalE M C k56x25) 2066035336255469782627 1891 ⟨(vp p0 :: (vl s1 n1 :: (rep 3 (.box [(.int .i64 i5x0), (.int .i64 i5x1), (.int .i64 i5x2), (.int .i64 i5x3), (.int .i64 i5x4), (.sl s5x5 n5x5)] :: (vi i6 :: (.any :: .any :: (vb b9 :: (vl s10 n10 :: (rep 57 (vl s68 n68 :: (vi i69 :: (vi i70 :: (rep 119 []))))))))))))), h⟩ Q
noncomputable def J56x68 (M : Mk) (C : Cal) (p0 : Option Ad) (s1 : SA) (n1 : Nat) (i5x0 i5x1 : Int) (i5x2 i5x3 i5x4 : Int) (s5x5 : SA) (n5x5 : Nat) (i8 : Int) (b9 : Bool) (h : Heap) : Res := M (AV × Heap) (seqQ (evalE M C k56x20) (seqQ (evalE M C k56x15) (seqQ (evalE M C k56x13) (blockQ 0 (seqQ (evalE M C k56x11) (seqQ (evalE M C k56x9) (endQ []))))))) (vp p0 :: (vl s1 n1 :: (rep 3 (.box [(.int .i64 i5x0), (.int .i64 i5x1), (.int .i64 i5x2), (.int .i64 i5x3), (.int .i64 i5x4), (.sl s5x5 n5x5)] :: (.any :: .any :: (vi i8 :: (vb b9 :: (rep 180 [])))))))) h
noncomputable def J56x67 (M : Mk) (C : Cal) (p0 : Option Ad) (s1 : SA) (n1 : Nat) (i5x0 i5x1 : Int) (i5x2 i5x3 i5x4 : Int) (s5x5 : SA) (n5x5 : Nat) (i8 : Int) (b9 : Bool) (h : Heap) : Res := M (AV × Heap) (seqQ (evalE M C k56x39) (seqQ (evalE M C k56x20) (seqQ (evalE M C k56x15) (seqQ (evalE M C k56x13) (blockQ 0 (seqQ (evalE M C k56x11) (seqQ (evalE M C k56x9) (endQ [])))))))) (vp p0 :: (vl s1 n1 :: (rep 3 (.box [(.int .i64 i5x0), (.int .i64 i5x1), (.int .i64 i5x2), (.int .i64 i5x3), (.int .i64 i5x4), (.sl s5x5 n5x5)] :: (.any :: .any :: (vi i8 :: (vb b9 :: (rep 180 [])))))))) h
noncomputable def J56x66 (M : Mk) (C : Cal) (p0 : Option Ad) (s1 : SA) (n1 : Nat) (i5x0 i5x1 : Int) (i5x2 i5x3 i5x4 : Int) (s5x5 : SA) (n5x5 : Nat) (i8 : Int) (b9 : Bool) (h : Heap) : Res := M (AV × Heap) (seqQ (evalE M C k56x41) (seqQ (evalE M C k56x39) (seqQ (evalE M C k56x20) (seqQ (evalE M C k56x15) (seqQ (evalE M C k56x13) (blockQ 0 (seqQ (evalE M C k56x11) (seqQ (evalE M C k56x9) (endQ []))))))))) (vp p0 :: (vl s1 n1 :: (rep 3 (.box [(.int .i64 i5x0), (.int .i64 i5x1), (.int .i64 i5x2), (.int .i64 i5x3), (.int .i64 i5x4), (.sl s5x5 n5x5)] :: (.any :: .any :: (vi i8 :: (vb b9 :: (rep 180 [])))))))) h
noncomputable def J56x65 (M : Mk) (C : Cal) (p0 : Option Ad) (s1 : SA) (n1 : Nat) (i5x0 i5x1 : Int) (i5x2 i5x3 i5x4 : Int) (s5x5 : SA) (n5x5 : Nat) (i8 : Int) (b9 : Bool) (h : Heap) : Res := M (AV × Heap) (seqQ (evalE M C k56x43) (seqQ (evalE M C k56x41) (seqQ (evalE M C k56x39) (seqQ (evalE M C k56x20) (seqQ (evalE M C k56x15) (seqQ (evalE M C k56x13) (blockQ 0 (seqQ (evalE M C k56x11) (seqQ (evalE M C k56x9) (endQ [])))))))))) (vp p0 :: (vl s1 n1 :: (rep 3 (.box [(.int .i64 i5x0), (.int .i64 i5x1), (.int .i64 i5x2), (.int .i64 i5x3), (.int .i64 i5x4), (.sl s5x5 n5x5)] :: (.any :: .any :: (vi i8 :: (vb b9 :: (rep 180 [])))))))) h
noncomputable def J56x64 (M : Mk) (C : Cal) (p0 : Option Ad) (s1 : SA) (n1 : Nat) (i5x0 i5x1 : Int) (i5x2 i5x3 i5x4 : Int) (s5x5 : SA) (n5x5 : Nat) (i8 : Int) (b9 : Bool) (h : Heap) : Res := M (AV × Heap) (seqQ (evalE M C k56x45) (seqQ (evalE M C k56x43) (seqQ (evalE M C k56x41) (seqQ (evalE M C k56x39) (seqQ (evalE M C k56x20) (seqQ (evalE M C k56x15) (seqQ (evalE M C k56x13) (blockQ 0 (seqQ (evalE M C k56x11) (seqQ (evalE M C k56x9) (endQ []))))))))))) (vp p0 :: (vl s1 n1 :: (rep 3 (.box [(.int .i64 i5x0), (.int .i64 i5x1), (.int .i64 i5x2), (.int .i64 i5x3), (.int .i64 i5x4), (.sl s5x5 n5x5)] :: (.any :: .any :: (vi i8 :: (vb b9 :: (rep 180 [])))))))) h
noncomputable def J56x69 (M : Mk) (C : Cal) (p0 : Option Ad) (s1 : SA) (n1 : Nat) (i5x0 i5x1 : Int) (i5x2 i5x3 i5x4 : Int) (s5x5 : SA) (n5x5 : Nat) (i8 : Int) (b9 : Bool) (h : Heap) : Res := M (AV × Heap) (seqQ (evalE M C k56x15) (seqQ (evalE M C k56x13) (blockQ 0 (seqQ (evalE M C k56x11) (seqQ (evalE M C k56x9) (endQ [])))))) (vp p0 :: (vl s1 n1 :: (rep 3 (.box [(.int .i64 i5x0), (.int .i64 i5x1), (.int .i64 i5x2), (.int .i64 i5x3), (.int .i64 i5x4), (.sl s5x5 n5x5)] :: (.any :: .any :: (vi i8 :: (vb b9 :: (rep 180 [])))))))) h
theorem r56 (p0 : Option Ad) (s1 : SA) (n1 : Nat) (i2x0 i2x1 : Int) (i2x2 i2x3 i2x4 : Int) (s2x5 : SA) (n2x5 : Nat) (h : Heap) : runE M C c56 [(.ptr p0), (.sl s1 n1), (.agg [(.int .i64 i2x0), (.int .i64 i2x1), (.int .i64 i2x2), (.int .i64 i2x3), (.int .i64 i2x4), (.sl s2x5 n2x5)])] h = (
 atP p0 true fun a16 =>
 gI .i64 (ld1 h (Ad.add a16 3)) true fun i18 =>
 letK (IntKind.wrap .i64 (i18 - 1)) fun i19 =>
 atP p0 true fun a20 =>
 (st1 h (Ad.add a20 3) (.int .i64 i19)).bind fun h_2 =>
 atP p0 true fun a23 =>
 gI .i64 (ld1 h_2 (Ad.add a23 3)) true fun i25 =>
 letK (decide (i25 < 0)) fun b26 =>
 if b26 = true then
  (
  (C 55 [(.ptr p0)] h_2).bind fun r28 =>
  gT 0 r28.1 true fun u28 =>
  some (.tup [], r28.2)
  )
 else
  (
  chk (true = true → 0 ≤ i2x2 ∧ i2x2 < (n1 : Int)) <|
  atP (adP s1) true fun a32 =>
  gI .i64 (ld1 h_2 (Ad.add a32 (Int.toNat i2x2 * 1))) true fun i33 =>
  chk (true = true → 0 ≤ i2x3 ∧ i2x3 < (n1 : Int)) <|
  atP (adP s1) true fun a37 =>
  gI .i64 (ld1 h_2 (Ad.add a37 (Int.toNat i2x3 * 1))) true fun i38 =>
  letK (decide (i2x0 = 100)) fun b56 =>
  if b56 = true then
   (
   J56x71 M C p0 s1 n1 i2x0 i2x1 i2x2 i2x3 i2x4 s2x5 n2x5 i33 true h_2
   )
  else
   (
   letK (decide (i2x0 = 103)) fun b59 =>
   if b59 = true then
    (
    letK (IntKind.wrap .i64 (2 * i2x4)) fun i62 =>
    letK (IntKind.wrap .i64 (i62 + 1)) fun i63 =>
    J56x70 M C p0 s1 n1 i2x0 i2x1 i2x2 i2x3 i2x4 s2x5 n2x5 i63 true h_2
    )
   else
    (
    letK (decide (i2x0 = 101)) fun b65 =>
    if b65 = true then
     (
     J56x19 M C p0 s1 n1 i2x0 i2x1 i2x2 i2x3 i2x4 s2x5 n2x5 i33 i38 0 true i2x0 b65 h_2
     )
    else
     (
     letK (decide (i2x0 = 102)) fun b66 =>
     J56x19 M C p0 s1 n1 i2x0 i2x1 i2x2 i2x3 i2x4 s2x5 n2x5 i33 i38 0 true i2x0 b66 h_2
     )
    )
   )
  )
 ) := by kernel_rfl
theorem cf56 : cFn Try.prog 56 = some c56 := by kernel_rfl
theorem e56 (p0 : Option Ad) (s1 : SA) (n1 : Nat) (i2x0 i2x1 : Int) (i2x2 i2x3 i2x4 : Int) (s2x5 : SA) (n2x5 : Nat) (h : Heap) : TEq (E 56 [(.ptr p0), (.sl s1 n1), (.agg [(.int .i64 i2x0), (.int .i64 i2x1), (.int .i64 i2x2), (.int .i64 i2x3), (.int .i64 i2x4), (.sl s2x5 n2x5)])] h) (r56 mk0 E p0 s1 n1 i2x0 i2x1 i2x2 i2x3 i2x4 s2x5 n2x5 h) := (EV_eq (P := Try.prog) (T := T0) rfl cf56 _ h).trans (r56 mk0 E p0 s1 n1 i2x0 i2x1 i2x2 i2x3 i2x4 s2x5 n2x5 h)
theorem J56x71xaux (M : Mk) (C : Cal) (p0 : Option Ad) (s1 : SA) (n1 : Nat) (i5x0 i5x1 : Int) (i5x2 i5x3 i5x4 : Int) (s5x5 : SA) (n5x5 : Nat) (i8 : Int) (b9 : Bool) (h : Heap) : (forceK tk (vp p0 :: (vl s1 n1 :: (rep 3 (.box [(.int .i64 i5x0), (.int .i64 i5x1), (.int .i64 i5x2), (.int .i64 i5x3), (.int .i64 i5x4), (.sl s5x5 n5x5)] :: (.any :: .any :: (vi i8 :: (vb b9 :: (rep 180 [])))))))) fun e => (blockQ 0 (seqQ (evalE M C k56x11) (seqQ (evalE M C k56x9) (endQ [])))) .normal ⟨e, h⟩) = (
 if (!b9) = true then
  (
  (C 55 [(.ptr p0)] h).bind fun r181 =>
  gT 0 r181.1 true fun u181 =>
  some (.tup [], r181.2)
  )
 else
  (
  (C 45 [(.agg [(.int .i64 i5x0), (.int .i64 i5x1), (.int .i64 i5x2), (.int .i64 i5x3), (.int .i64 i5x4), (.sl s5x5 n5x5)])] h).bind fun r183 =>
  gI .i64 (some r183.1) true fun i183 =>
  letK (!decide (i183 = 0)) fun b185 =>
  if b185 = true then
   (
   chk (true = true → 0 ≤ i183 ∧ i183 < (n1 : Int)) <|
   atP (adP s1) true fun a189 =>
   (st1 r183.2 (Ad.add a189 (Int.toNat i183 * 1)) (.int .i64 i8)).bind fun h_2 =>
   J56x80 M C h_2
   )
  else
   (
   J56x80 M C r183.2
   )
  )
 ) := by kernel_rfl
theorem J56x71xeq (C : Cal) (p0 : Option Ad) (s1 : SA) (n1 : Nat) (i5x0 i5x1 : Int) (i5x2 i5x3 i5x4 : Int) (s5x5 : SA) (n5x5 : Nat) (i8 : Int) (b9 : Bool) (h : Heap) : TEq (J56x71 mk0 C p0 s1 n1 i5x0 i5x1 i5x2 i5x3 i5x4 s5x5 n5x5 i8 b9 h) (J56x71xaux mk0 C p0 s1 n1 i5x0 i5x1 i5x2 i5x3 i5x4 s5x5 n5x5 i8 b9 h) := join_eqn _ _ h (J56x71xaux mk0 C p0 s1 n1 i5x0 i5x1 i5x2 i5x3 i5x4 s5x5 n5x5 i8 b9 h)
theorem J56x70xaux (M : Mk) (C : Cal) (p0 : Option Ad) (s1 : SA) (n1 : Nat) (i5x0 i5x1 : Int) (i5x2 i5x3 i5x4 : Int) (s5x5 : SA) (n5x5 : Nat) (i8 : Int) (b9 : Bool) (h : Heap) : (forceK tk (vp p0 :: (vl s1 n1 :: (rep 3 (.box [(.int .i64 i5x0), (.int .i64 i5x1), (.int .i64 i5x2), (.int .i64 i5x3), (.int .i64 i5x4), (.sl s5x5 n5x5)] :: (.any :: .any :: (vi i8 :: (vb b9 :: (rep 180 [])))))))) fun e => (seqQ (evalE M C k56x13) (blockQ 0 (seqQ (evalE M C k56x11) (seqQ (evalE M C k56x9) (endQ []))))) .normal ⟨e, h⟩) = (
 J56x71 M C p0 s1 n1 i5x0 i5x1 i5x2 i5x3 i5x4 s5x5 n5x5 i8 b9 h
 ) := by kernel_rfl
theorem J56x70xeq (C : Cal) (p0 : Option Ad) (s1 : SA) (n1 : Nat) (i5x0 i5x1 : Int) (i5x2 i5x3 i5x4 : Int) (s5x5 : SA) (n5x5 : Nat) (i8 : Int) (b9 : Bool) (h : Heap) : TEq (J56x70 mk0 C p0 s1 n1 i5x0 i5x1 i5x2 i5x3 i5x4 s5x5 n5x5 i8 b9 h) (J56x70xaux mk0 C p0 s1 n1 i5x0 i5x1 i5x2 i5x3 i5x4 s5x5 n5x5 i8 b9 h) := join_eqn _ _ h (J56x70xaux mk0 C p0 s1 n1 i5x0 i5x1 i5x2 i5x3 i5x4 s5x5 n5x5 i8 b9 h)
theorem J56x19xaux (M : Mk) (C : Cal) (p0 : Option Ad) (s1 : SA) (n1 : Nat) (i5x0 i5x1 : Int) (i5x2 i5x3 i5x4 : Int) (s5x5 : SA) (n5x5 : Nat) (i6 i7 i8 : Int) (b9 : Bool) (i40 : Int) (b64 : Bool) (h : Heap) : (forceK tk (vp p0 :: (vl s1 n1 :: (rep 3 (.box [(.int .i64 i5x0), (.int .i64 i5x1), (.int .i64 i5x2), (.int .i64 i5x3), (.int .i64 i5x4), (.sl s5x5 n5x5)] :: (vi i6 :: (vi i7 :: (vi i8 :: (vb b9 :: (rep 30 (vi i40 :: (rep 23 (vb b64 :: (rep 125 []))))))))))))) fun e => (seqQ (evalE M C k56x16) (seqQ (evalE M C k56x15) (seqQ (evalE M C k56x13) (blockQ 0 (seqQ (evalE M C k56x11) (seqQ (evalE M C k56x9) (endQ []))))))) .normal ⟨e, h⟩) = (
 if b64 = true then
  (
  L56x25 M C p0 s1 n1 i5x0 i5x1 i5x2 i5x3 i5x4 s5x5 n5x5 i6 b9 .nil 0 s5x5 n5x5 (n5x5 : Int) 0 h (Q56x25 M C)
  )
 else
  (
  letK (decide (i40 = 12)) fun b93 =>
  if b93 = true then
   (
   atP p0 true fun a96 =>
   letK (IntKind.wrap .i64 (i6 + i5x4)) fun i101 =>
   (C 85 [(.ptr (some (Ad.add a96 1))), (.int .i64 i101)] h).bind fun r102 =>
   gT 2 r102.1 true fun u102 =>
   gI .i64 (some (List.getD u102 0 .opq)) true fun i102x0 =>
   gB (some (List.getD u102 1 .opq)) true fun b102x1 =>
   J56x68 M C p0 s1 n1 i5x0 i5x1 i5x2 i5x3 i5x4 s5x5 n5x5 i102x0 b102x1 r102.2
   )
  else
   (
   letK (decide (i40 = 13)) fun b106 =>
   if b106 = true then
    (
    atP p0 true fun a108 =>
    letK (IntKind.wrap .i64 (i6 + i5x4)) fun i113 =>
    (C 86 [(.ptr (some (Ad.add a108 1))), (.int .i64 i113), (.int .i64 i7)] h).bind fun r115 =>
    gB (some r115.1) true fun b115 =>
    J56x67 M C p0 s1 n1 i5x0 i5x1 i5x2 i5x3 i5x4 s5x5 n5x5 i8 b115 r115.2
    )
   else
    (
    letK (decide (i40 = 14)) fun b117 =>
    if b117 = true then
     (
     atP p0 true fun a120 =>
     (C 87 [(.ptr (some (Ad.add a120 1))), (.int .i64 i7), (.int .i64 i5x4), (.int .i64 1)] h).bind fun r125 =>
     gT 2 r125.1 true fun u125 =>
     gI .i64 (some (List.getD u125 0 .opq)) true fun i125x0 =>
     gB (some (List.getD u125 1 .opq)) true fun b125x1 =>
     J56x66 M C p0 s1 n1 i5x0 i5x1 i5x2 i5x3 i5x4 s5x5 n5x5 i125x0 b125x1 r125.2
     )
    else
     (
     letK (decide (i40 = 15)) fun b129 =>
     if b129 = true then
      (
      letK (decide (i6 < 0)) fun b131 =>
      letK (decide ((1024 : Int) < i6)) fun b134 =>
      letK (if b131 = true then true else b134) fun b135 =>
      if b135 = true then
       (
       (C 57 [(.ptr p0), (.int .i64 6)] h).bind fun r137 =>
       gT 0 r137.1 true fun u137 =>
       some (.tup [], r137.2)
       )
      else
       (
       atP p0 true fun a140 =>
       letK (IntKind.wrap .i64 (1052672 + i6)) fun i143 =>
       letK (IntKind.wrap .i64 (i143 * 2)) fun i144 =>
       letK (IntKind.wrap .i64 (i144 + 1)) fun i145 =>
       (C 87 [(.ptr (some (Ad.add a140 1))), (.int .i64 i145), (.int .i64 i6), (.int .i64 i7)] h).bind fun r148 =>
       gT 2 r148.1 true fun u148 =>
       gI .i64 (some (List.getD u148 0 .opq)) true fun i148x0 =>
       gB (some (List.getD u148 1 .opq)) true fun b148x1 =>
       J56x65 M C p0 s1 n1 i5x0 i5x1 i5x2 i5x3 i5x4 s5x5 n5x5 i148x0 b148x1 r148.2
       )
      )
     else
      (
      letK (decide (i40 = 23)) fun b152 =>
      if b152 = true then
       (
       atP p0 true fun a154 =>
       gL (ld1 h (Ad.add a154 4)) true fun s156 n156 =>
       letK (decide ((1000 : Int) ≤ (n156 : Int))) fun b158 =>
       if b158 = true then
        (
        (C 57 [(.ptr p0), (.int .i64 6)] h).bind fun r160 =>
        gT 0 r160.1 true fun u160 =>
        some (.tup [], r160.2)
        )
       else
        (
        atP p0 true fun a163 =>
        gL (ld1 h (Ad.add a163 4)) true fun s165 n165 =>
        (C 33 [(.int .i64 i6), (.int .i64 2)] h).bind fun r168 =>
        gI .i64 (some r168.1) true fun i168 =>
        chkC (true = true → ldN r168.2 (Ad.add a163 4) 1 = ldN h (Ad.add a163 4) 1) <|
        letK (IntKind.wrap .i64 (i6 - i168)) fun i169 =>
        letK (IntKind.wrap .i64 (Int.tdiv i169 2)) fun i170 =>
        newK r168.2 (.cells [(.int .i64 i170)] (.grow 1) 0) fun h_2 =>
        (ldSl h_2 (.pos ⟨List.length r168.2, 0, 0⟩) (1 * 1)).bind fun y172 =>
        (apnd h_2 (.sl s165 n165) 1 8 y172 1).bind fun r172 =>
        gL (some r172.1) true fun s172 n172 =>
        atP p0 true fun a173 =>
        (st1 r172.2 (Ad.add a173 4) (.sl s172 n172)).bind fun h_3 =>
        (C 33 [(.int .i64 i6), (.int .i64 2)] h_3).bind fun r176 =>
        gI .i64 (some r176.1) true fun i176 =>
        letK (decide (i176 = 1)) fun b177 =>
        J56x64 M C p0 s1 n1 i5x0 i5x1 i5x2 i5x3 i5x4 s5x5 n5x5 i8 b177 r176.2
        )
       )
      else
       (
       (C 88 [(.int .i64 i5x0), (.int .i64 i6), (.int .i64 i7), (.int .i64 i5x4)] h).bind fun r48 =>
       gT 2 r48.1 true fun u48 =>
       gI .i64 (some (List.getD u48 0 .opq)) true fun i48x0 =>
       gB (some (List.getD u48 1 .opq)) true fun b48x1 =>
       if (!b48x1) = true then
        (
        (C 57 [(.ptr p0), (.int .i64 1)] r48.2).bind fun r54 =>
        gT 0 r54.1 true fun u54 =>
        some (.tup [], r54.2)
        )
       else
        (
        J56x64 M C p0 s1 n1 i5x0 i5x1 i5x2 i5x3 i5x4 s5x5 n5x5 i48x0 b48x1 r48.2
        )
       )
      )
     )
    )
   )
  )
 ) := by kernel_rfl
theorem J56x19xeq (C : Cal) (p0 : Option Ad) (s1 : SA) (n1 : Nat) (i5x0 i5x1 : Int) (i5x2 i5x3 i5x4 : Int) (s5x5 : SA) (n5x5 : Nat) (i6 i7 i8 : Int) (b9 : Bool) (i40 : Int) (b64 : Bool) (h : Heap) : TEq (J56x19 mk0 C p0 s1 n1 i5x0 i5x1 i5x2 i5x3 i5x4 s5x5 n5x5 i6 i7 i8 b9 i40 b64 h) (J56x19xaux mk0 C p0 s1 n1 i5x0 i5x1 i5x2 i5x3 i5x4 s5x5 n5x5 i6 i7 i8 b9 i40 b64 h) := join_eqn _ _ h (J56x19xaux mk0 C p0 s1 n1 i5x0 i5x1 i5x2 i5x3 i5x4 s5x5 n5x5 i6 i7 i8 b9 i40 b64 h)
theorem J56x80xaux (M : Mk) (C : Cal) (h : Heap) : (forceK tk (rep 190 []) fun e => (endQ []) .normal ⟨e, h⟩) = (
 some (.tup [], h)
 ) := by kernel_rfl
theorem J56x80xeq (C : Cal) (h : Heap) : TEq (J56x80 mk0 C h) (J56x80xaux mk0 C h) := join_eqn _ _ h (J56x80xaux mk0 C h)
theorem J56x68xaux (M : Mk) (C : Cal) (p0 : Option Ad) (s1 : SA) (n1 : Nat) (i5x0 i5x1 : Int) (i5x2 i5x3 i5x4 : Int) (s5x5 : SA) (n5x5 : Nat) (i8 : Int) (b9 : Bool) (h : Heap) : (forceK tk (vp p0 :: (vl s1 n1 :: (rep 3 (.box [(.int .i64 i5x0), (.int .i64 i5x1), (.int .i64 i5x2), (.int .i64 i5x3), (.int .i64 i5x4), (.sl s5x5 n5x5)] :: (.any :: .any :: (vi i8 :: (vb b9 :: (rep 180 [])))))))) fun e => (seqQ (evalE M C k56x20) (seqQ (evalE M C k56x15) (seqQ (evalE M C k56x13) (blockQ 0 (seqQ (evalE M C k56x11) (seqQ (evalE M C k56x9) (endQ []))))))) .normal ⟨e, h⟩) = (
 J56x69 M C p0 s1 n1 i5x0 i5x1 i5x2 i5x3 i5x4 s5x5 n5x5 i8 b9 h
 ) := by kernel_rfl
theorem J56x68xeq (C : Cal) (p0 : Option Ad) (s1 : SA) (n1 : Nat) (i5x0 i5x1 : Int) (i5x2 i5x3 i5x4 : Int) (s5x5 : SA) (n5x5 : Nat) (i8 : Int) (b9 : Bool) (h : Heap) : TEq (J56x68 mk0 C p0 s1 n1 i5x0 i5x1 i5x2 i5x3 i5x4 s5x5 n5x5 i8 b9 h) (J56x68xaux mk0 C p0 s1 n1 i5x0 i5x1 i5x2 i5x3 i5x4 s5x5 n5x5 i8 b9 h) := join_eqn _ _ h (J56x68xaux mk0 C p0 s1 n1 i5x0 i5x1 i5x2 i5x3 i5x4 s5x5 n5x5 i8 b9 h)
theorem J56x67xaux (M : Mk) (C : Cal) (p0 : Option Ad) (s1 : SA) (n1 : Nat) (i5x0 i5x1 : Int) (i5x2 i5x3 i5x4 : Int) (s5x5 : SA) (n5x5 : Nat) (i8 : Int) (b9 : Bool) (h : Heap) : (forceK tk (vp p0 :: (vl s1 n1 :: (rep 3 (.box [(.int .i64 i5x0), (.int .i64 i5x1), (.int .i64 i5x2), (.int .i64 i5x3), (.int .i64 i5x4), (.sl s5x5 n5x5)] :: (.any :: .any :: (vi i8 :: (vb b9 :: (rep 180 [])))))))) fun e => (seqQ (evalE M C k56x39) (seqQ (evalE M C k56x20) (seqQ (evalE M C k56x15) (seqQ (evalE M C k56x13) (blockQ 0 (seqQ (evalE M C k56x11) (seqQ (evalE M C k56x9) (endQ [])))))))) .normal ⟨e, h⟩) = (
 J56x68 M C p0 s1 n1 i5x0 i5x1 i5x2 i5x3 i5x4 s5x5 n5x5 i8 b9 h
 ) := by kernel_rfl
theorem J56x67xeq (C : Cal) (p0 : Option Ad) (s1 : SA) (n1 : Nat) (i5x0 i5x1 : Int) (i5x2 i5x3 i5x4 : Int) (s5x5 : SA) (n5x5 : Nat) (i8 : Int) (b9 : Bool) (h : Heap) : TEq (J56x67 mk0 C p0 s1 n1 i5x0 i5x1 i5x2 i5x3 i5x4 s5x5 n5x5 i8 b9 h) (J56x67xaux mk0 C p0 s1 n1 i5x0 i5x1 i5x2 i5x3 i5x4 s5x5 n5x5 i8 b9 h) := join_eqn _ _ h (J56x67xaux mk0 C p0 s1 n1 i5x0 i5x1 i5x2 i5x3 i5x4 s5x5 n5x5 i8 b9 h)
theorem J56x66xaux (M : Mk) (C : Cal) (p0 : Option Ad) (s1 : SA) (n1 : Nat) (i5x0 i5x1 : Int) (i5x2 i5x3 i5x4 : Int) (s5x5 : SA) (n5x5 : Nat) (i8 : Int) (b9 : Bool) (h : Heap) : (forceK tk (vp p0 :: (vl s1 n1 :: (rep 3 (.box [(.int .i64 i5x0), (.int .i64 i5x1), (.int .i64 i5x2), (.int .i64 i5x3), (.int .i64 i5x4), (.sl s5x5 n5x5)] :: (.any :: .any :: (vi i8 :: (vb b9 :: (rep 180 [])))))))) fun e => (seqQ (evalE M C k56x41) (seqQ (evalE M C k56x39) (seqQ (evalE M C k56x20) (seqQ (evalE M C k56x15) (seqQ (evalE M C k56x13) (blockQ 0 (seqQ (evalE M C k56x11) (seqQ (evalE M C k56x9) (endQ []))))))))) .normal ⟨e, h⟩) = (
 J56x67 M C p0 s1 n1 i5x0 i5x1 i5x2 i5x3 i5x4 s5x5 n5x5 i8 b9 h
 ) := by kernel_rfl
theorem J56x66xeq (C : Cal) (p0 : Option Ad) (s1 : SA) (n1 : Nat) (i5x0 i5x1 : Int) (i5x2 i5x3 i5x4 : Int) (s5x5 : SA) (n5x5 : Nat) (i8 : Int) (b9 : Bool) (h : Heap) : TEq (J56x66 mk0 C p0 s1 n1 i5x0 i5x1 i5x2 i5x3 i5x4 s5x5 n5x5 i8 b9 h) (J56x66xaux mk0 C p0 s1 n1 i5x0 i5x1 i5x2 i5x3 i5x4 s5x5 n5x5 i8 b9 h) := join_eqn _ _ h (J56x66xaux mk0 C p0 s1 n1 i5x0 i5x1 i5x2 i5x3 i5x4 s5x5 n5x5 i8 b9 h)
theorem J56x65xaux (M : Mk) (C : Cal) (p0 : Option Ad) (s1 : SA) (n1 : Nat) (i5x0 i5x1 : Int) (i5x2 i5x3 i5x4 : Int) (s5x5 : SA) (n5x5 : Nat) (i8 : Int) (b9 : Bool) (h : Heap) : (forceK tk (vp p0 :: (vl s1 n1 :: (rep 3 (.box [(.int .i64 i5x0), (.int .i64 i5x1), (.int .i64 i5x2), (.int .i64 i5x3), (.int .i64 i5x4), (.sl s5x5 n5x5)] :: (.any :: .any :: (vi i8 :: (vb b9 :: (rep 180 [])))))))) fun e => (seqQ (evalE M C k56x43) (seqQ (evalE M C k56x41) (seqQ (evalE M C k56x39) (seqQ (evalE M C k56x20) (seqQ (evalE M C k56x15) (seqQ (evalE M C k56x13) (blockQ 0 (seqQ (evalE M C k56x11) (seqQ (evalE M C k56x9) (endQ [])))))))))) .normal ⟨e, h⟩) = (
 J56x66 M C p0 s1 n1 i5x0 i5x1 i5x2 i5x3 i5x4 s5x5 n5x5 i8 b9 h
 ) := by kernel_rfl
theorem J56x65xeq (C : Cal) (p0 : Option Ad) (s1 : SA) (n1 : Nat) (i5x0 i5x1 : Int) (i5x2 i5x3 i5x4 : Int) (s5x5 : SA) (n5x5 : Nat) (i8 : Int) (b9 : Bool) (h : Heap) : TEq (J56x65 mk0 C p0 s1 n1 i5x0 i5x1 i5x2 i5x3 i5x4 s5x5 n5x5 i8 b9 h) (J56x65xaux mk0 C p0 s1 n1 i5x0 i5x1 i5x2 i5x3 i5x4 s5x5 n5x5 i8 b9 h) := join_eqn _ _ h (J56x65xaux mk0 C p0 s1 n1 i5x0 i5x1 i5x2 i5x3 i5x4 s5x5 n5x5 i8 b9 h)
theorem J56x64xaux (M : Mk) (C : Cal) (p0 : Option Ad) (s1 : SA) (n1 : Nat) (i5x0 i5x1 : Int) (i5x2 i5x3 i5x4 : Int) (s5x5 : SA) (n5x5 : Nat) (i8 : Int) (b9 : Bool) (h : Heap) : (forceK tk (vp p0 :: (vl s1 n1 :: (rep 3 (.box [(.int .i64 i5x0), (.int .i64 i5x1), (.int .i64 i5x2), (.int .i64 i5x3), (.int .i64 i5x4), (.sl s5x5 n5x5)] :: (.any :: .any :: (vi i8 :: (vb b9 :: (rep 180 [])))))))) fun e => (seqQ (evalE M C k56x45) (seqQ (evalE M C k56x43) (seqQ (evalE M C k56x41) (seqQ (evalE M C k56x39) (seqQ (evalE M C k56x20) (seqQ (evalE M C k56x15) (seqQ (evalE M C k56x13) (blockQ 0 (seqQ (evalE M C k56x11) (seqQ (evalE M C k56x9) (endQ []))))))))))) .normal ⟨e, h⟩) = (
 J56x65 M C p0 s1 n1 i5x0 i5x1 i5x2 i5x3 i5x4 s5x5 n5x5 i8 b9 h
 ) := by kernel_rfl
theorem J56x64xeq (C : Cal) (p0 : Option Ad) (s1 : SA) (n1 : Nat) (i5x0 i5x1 : Int) (i5x2 i5x3 i5x4 : Int) (s5x5 : SA) (n5x5 : Nat) (i8 : Int) (b9 : Bool) (h : Heap) : TEq (J56x64 mk0 C p0 s1 n1 i5x0 i5x1 i5x2 i5x3 i5x4 s5x5 n5x5 i8 b9 h) (J56x64xaux mk0 C p0 s1 n1 i5x0 i5x1 i5x2 i5x3 i5x4 s5x5 n5x5 i8 b9 h) := join_eqn _ _ h (J56x64xaux mk0 C p0 s1 n1 i5x0 i5x1 i5x2 i5x3 i5x4 s5x5 n5x5 i8 b9 h)
theorem J56x69xaux (M : Mk) (C : Cal) (p0 : Option Ad) (s1 : SA) (n1 : Nat) (i5x0 i5x1 : Int) (i5x2 i5x3 i5x4 : Int) (s5x5 : SA) (n5x5 : Nat) (i8 : Int) (b9 : Bool) (h : Heap) : (forceK tk (vp p0 :: (vl s1 n1 :: (rep 3 (.box [(.int .i64 i5x0), (.int .i64 i5x1), (.int .i64 i5x2), (.int .i64 i5x3), (.int .i64 i5x4), (.sl s5x5 n5x5)] :: (.any :: .any :: (vi i8 :: (vb b9 :: (rep 180 [])))))))) fun e => (seqQ (evalE M C k56x15) (seqQ (evalE M C k56x13) (blockQ 0 (seqQ (evalE M C k56x11) (seqQ (evalE M C k56x9) (endQ [])))))) .normal ⟨e, h⟩) = (
 J56x70 M C p0 s1 n1 i5x0 i5x1 i5x2 i5x3 i5x4 s5x5 n5x5 i8 b9 h
 ) := by kernel_rfl
theorem J56x69xeq (C : Cal) (p0 : Option Ad) (s1 : SA) (n1 : Nat) (i5x0 i5x1 : Int) (i5x2 i5x3 i5x4 : Int) (s5x5 : SA) (n5x5 : Nat) (i8 : Int) (b9 : Bool) (h : Heap) : TEq (J56x69 mk0 C p0 s1 n1 i5x0 i5x1 i5x2 i5x3 i5x4 s5x5 n5x5 i8 b9 h) (J56x69xaux mk0 C p0 s1 n1 i5x0 i5x1 i5x2 i5x3 i5x4 s5x5 n5x5 i8 b9 h) := join_eqn _ _ h (J56x69xaux mk0 C p0 s1 n1 i5x0 i5x1 i5x2 i5x3 i5x4 s5x5 n5x5 i8 b9 h)
def k23x6 : AC := .ret
def k23x5 : AC := .seq (.mask 64) k23x6
def k23x4 : AC := .seq (.ops false [
 o 6 (.move (c 0))]) k23x5
def k23x3 : AC := .mask 7
def k23x2 : AC := .seq (.cond (.tmp 49)
 (.seq (.ops false [
 o 50 (.move (t 0)),
 o 51 (.call 55 [(t 50)] [] .opq)]) k23x4)
  (.skip)) k23x3
def k23x17 : AC := .exit 0
def k23x16 : AC := .mask 8264141345021879124357
def k23x20 : AC := .ops false [
 o 77 (.move (t 8)),
 o 78 (.move (t 10)),
 o 79 (.move (t 2)),
 o 80 (.move (t 9)),
 o 81 (.indexAddr 1 (t 79) (t 80)),
 o 82 (.load I (t 81)),
 o 83 (.indexAddr 1 (t 77) (t 78)),
 u (.store 1 (t 83) (t 82))]
def k23x19 : AC := .mask 8264141345021879124357
def k23x18 : AC := .ops false [
 o 84 (.bin .other .add (t 72) (c 1)),
 o 72 (.move (t 84))]
def k23x15 : AC := .seq (.seq (.block 1 (.seq (.ops false [
 o 74 (.move (t 72)),
 o 75 (.indexAddr 1 (t 70) (t 72)),
 o 76 (.load I (t 75)),
 o 9 (.move (t 74)),
 o 10 (.move (t 76))]) k23x20)) k23x19) k23x18
def k23x14 : AC := .seq (.seq (.cond (.tmp 73)
 (.skip)
 (.seq (.mask 385) k23x17)) k23x16) k23x15
def k23x13 : AC := .seq (.ops false [
 o 73 (.bin .other .lss (t 72) (t 71))]) k23x14
def k23x12 : AC := .mask 385
def k23x11 : AC := .seq (.block 0 (.loop 8264141345021879124357 385 k23x13)) k23x12
def k23x28 : AC := .exit 2
def k23x27 : AC := .mask 2433
def k23x26 : AC := .seq (.cond (.tmp 89)
 (.skip)
 (.seq (.mask 1) k23x28)) k23x27
def k23x37 : AC := .exit 4
def k23x36 : AC := .mask 277298568799925181577403828609
def k23x44 : AC := .exit 4
def k23x43 : AC := .mask 277298568799925181577403828609
def k23x42 : AC := .seq (.cond (.tmp 108)
 (.seq (.mask 2433) k23x44)
 (.skip)) k23x43
def k23x41 : AC := .seq (.ops false [
 o 105 (.move (t 0)),
 o 106 (.nilCheck (t 105)),
 o 107 (.fieldAddr 6 (t 106)),
 o 108 (.load (.cell .bool) (t 107))]) k23x42
def k23x40 : AC := .seq (.ops false [
 o 101 (.move (t 0)),
 o 102 (.move (t 8)),
 o 103 (.load (.agg [(.int .i64), (.int .i64), (.int .i64), (.int .i64), (.int .i64), .sl]) (t 13)),
 o 104 (.call 56 [(t 101), (t 102), (t 103)] [] .opq)]) k23x41
def k23x39 : AC := .mask 277298568799925181577403828609
def k23x38 : AC := .ops false [
 o 109 (.bin .other .add (t 97) (c 1)),
 o 97 (.move (t 109))]
def k23x35 : AC := .seq (.seq (.block 5 (.seq (.ops false [
 o 99 (.indexAddr 6 (t 95) (t 97)),
 o 100 (.load (.agg [(.int .i64), (.int .i64), (.int .i64), (.int .i64), (.int .i64), .sl]) (t 99)),
 o 13 (.allocL [(.int .i64 0), (.int .i64 0), (.int .i64 0), (.int .i64 0), (.int .i64 0), (.sl .nil 0)]),
 u (.store 6 (t 13) (t 100))]) k23x40)) k23x39) k23x38
def k23x34 : AC := .seq (.seq (.cond (.tmp 98)
 (.skip)
 (.seq (.mask 2433) k23x37)) k23x36) k23x35
def k23x33 : AC := .seq (.ops false [
 o 98 (.bin .other .lss (t 97) (t 96))]) k23x34
def k23x32 : AC := .join 2433
def k23x31 : AC := .seq (.block 4 (.loop 277298568799925181577403828609 2433 k23x33)) k23x32
def k23x49 : AC := .join 2433
def k23x48 : AC := .seq (.cond (.tmp 121)
 (.ops false [
 o 122 (.move (t 0)),
 o 123 (.call 55 [(t 122)] [] .opq)])
  (.skip)) k23x49
def k23x47 : AC := .seq (.ops false [
 o 117 (.move (t 0)),
 o 118 (.nilCheck (t 117)),
 o 119 (.fieldAddr 3 (t 118)),
 o 120 (.load I (t 119)),
 o 121 (.bin .other .lss (t 120) (c 0))]) k23x48
def k23x54 : AC := .exit 2
def k23x53 : AC := .mask 2433
def k23x52 : AC := .seq (.cond (.tmp 127)
 (.seq (.mask 1) k23x54)
 (.skip)) k23x53
def k23x62 : AC := .ret
def k23x61 : AC := .seq (.mask 64) k23x62
def k23x60 : AC := .seq (.ops false [
 o 192 (.move (t 8)),
 o 193 (.fieldAddr 2 (t 14)),
 o 194 (.load I (t 193)),
 o 195 (.indexAddr 1 (t 192) (t 194)),
 o 196 (.load I (t 195)),
 o 6 (.move (t 196))]) k23x61
def k23x71 : AC := .join 2433
def k23x70 : AC := .seq (.cond (.tmp 178)
 (.ops false [
 o 179 (.fieldAddr 5 (t 14)),
 o 180 (.load (.cell .sl) (t 179)),
 o 181 (.indexAddr 1 (t 180) (c 0)),
 o 182 (.load I (t 181)),
 o 11 (.move (t 182))])
  (.skip)) k23x71
def k23x69 : AC := .seq (.ops false [
 o 178 (.move (t 17))]) k23x70
def k23x68 : AC := .seq (.ops false [
 o 174 (.fieldAddr 5 (t 14)),
 o 175 (.load (.cell .sl) (t 174)),
 o 176 (.indexAddr 1 (t 175) (c 1)),
 o 177 (.load I (t 176)),
 o 11 (.move (t 177))]) k23x69
def k23x67 : AC := .seq (.ops true [
 o 146 (.fieldAddr 1 (t 14)),
 o 147 (.load I (t 146)),
 o 148 (.bin .other .eql (t 147) (c 16)),
 o 149 (.move (t 148)),
 g 150 149 (.move (t 15)),
 g 151 149 (.move (t 16)),
 g 152 149 (.bin .other .eql (t 150) (t 151)),
 o 153 (.pick (t 149) (t 152) (.c (.bool false))),
 o 154 (.move (t 153)),
 f 155 154 (.fieldAddr 1 (t 14)),
 f 156 154 (.load I (t 155)),
 f 157 154 (.bin .other .eql (t 156) (c 17)),
 f 158 154 (.move (t 157)),
 g 159 158 (.move (t 15)),
 g 160 158 (.move (t 16)),
 g 161 158 (.bin .other .neq (t 159) (t 160)),
 f 162 154 (.pick (t 158) (t 161) (.c (.bool false))),
 o 163 (.pick (t 154) (.c (.bool true)) (t 162)),
 o 164 (.move (t 163)),
 f 165 164 (.fieldAddr 1 (t 14)),
 f 166 164 (.load I (t 165)),
 f 167 164 (.bin .other .eql (t 166) (c 18)),
 f 168 164 (.move (t 167)),
 g 169 168 (.move (t 15)),
 g 170 168 (.move (t 16)),
 g 171 168 (.bin .other .lss (t 169) (t 170)),
 f 172 164 (.pick (t 168) (t 171) (.c (.bool false))),
 o 173 (.pick (t 164) (.c (.bool true)) (t 172)),
 o 17 (.move (t 173))]) k23x68
def k23x66 : AC := .join 2433
def k23x65 : AC := .seq (.cond (.tmp 203)
 (.ops false [
 o 205 (.fieldAddr 5 (t 14)),
 o 206 (.load (.cell .sl) (t 205)),
 o 207 (.indexAddr 1 (t 206) (c 0)),
 o 208 (.load I (t 207)),
 o 11 (.move (t 208))])
  (.seq (.ops false [
 o 136 (.move (t 8)),
 o 137 (.fieldAddr 2 (t 14)),
 o 138 (.load I (t 137)),
 o 139 (.indexAddr 1 (t 136) (t 138)),
 o 140 (.load I (t 139)),
 o 141 (.move (t 8)),
 o 142 (.fieldAddr 3 (t 14)),
 o 143 (.load I (t 142)),
 o 144 (.indexAddr 1 (t 141) (t 143)),
 o 145 (.load I (t 144)),
 o 15 (.move (t 140)),
 o 16 (.move (t 145))]) k23x67)) k23x66
def k23x64 : AC := .join 2433
def k23x63 : AC := .seq (.cond (.tmp 197)
 (.ops false [
 o 199 (.move (t 0)),
 o 200 (.fieldAddr 4 (t 14)),
 o 201 (.load I (t 200)),
 o 202 (.call 57 [(t 199), (t 201)] [] .opq)])
  (.seq (.ops false [
 o 204 (.bin .other .eql (t 135) (c 1)),
 o 203 (.move (t 204))]) k23x65)) k23x64
def k23x59 : AC := .mask 2433
def k23x58 : AC := .seq (.cond (.tmp 183)
 (.seq (.ops false [
 o 185 (.move (t 0)),
 o 186 (.nilCheck (t 185)),
 o 187 (.fieldAddr 8 (t 186)),
 o 188 (.load I (t 187)),
 o 189 (.bin .other .sub (t 188) (c 1)),
 o 190 (.nilCheck (t 185)),
 o 191 (.fieldAddr 8 (t 190)),
 u (.store 1 (t 191) (t 189))]) k23x60)
  (.seq (.ops false [
 o 198 (.bin .other .eql (t 135) (c 3)),
 o 197 (.move (t 198))]) k23x63)) k23x59
def k23x57 : AC := .mask 2433
def k23x56 : AC := .seq (.block 6 (.seq (.ops false [
 o 184 (.bin .other .eql (t 135) (c 0)),
 o 183 (.move (t 184))]) k23x58)) k23x57
def k23x55 : AC := .seq (.ops false [
 o 134 (.fieldAddr 0 (t 14)),
 o 135 (.load I (t 134))]) k23x56
def k23x51 : AC := .seq (.ops false [
 o 128 (.fieldAddr 3 (t 7)),
 o 129 (.load (.cell .sl) (t 128)),
 o 130 (.move (t 11)),
 o 131 (.indexAddr 7 (t 129) (t 130)),
 o 132 (.fieldAddr 1 (t 131)),
 o 133 (.load (.agg [(.int .i64), (.int .i64), (.int .i64), (.int .i64), (.int .i64), .sl]) (t 132)),
 o 14 (.allocL [(.int .i64 0), (.int .i64 0), (.int .i64 0), (.int .i64 0), (.int .i64 0), (.sl .nil 0)]),
 u (.store 6 (t 14) (t 133))]) k23x55
def k23x46 : AC := .seq (.seq (.ops false [
 o 124 (.move (t 0)),
 o 125 (.nilCheck (t 124)),
 o 126 (.fieldAddr 6 (t 125)),
 o 127 (.load (.cell .bool) (t 126))]) k23x52) k23x51
def k23x30 : AC := .seq (.seq (.ops false [
 o 110 (.move (t 0)),
 o 111 (.nilCheck (t 110)),
 o 112 (.fieldAddr 3 (t 111)),
 o 113 (.load I (t 112)),
 o 114 (.bin .other .sub (t 113) (c 1)),
 o 115 (.nilCheck (t 110)),
 o 116 (.fieldAddr 3 (t 115)),
 u (.store 1 (t 116) (t 114))]) k23x47) k23x46
def k23x29 : AC := .mask 2433
def k23x25 : AC := .seq (.block 3 (.seq (.seq (.ops false [
 o 90 (.fieldAddr 3 (t 7)),
 o 91 (.load (.cell .sl) (t 90)),
 o 92 (.move (t 11)),
 o 93 (.indexAddr 7 (t 91) (t 92)),
 o 94 (.fieldAddr 0 (t 93)),
 o 95 (.load (.cell .sl) (t 94)),
 o 96 (.lenSl (t 95)),
 o 97 (.move (c 0))]) k23x31) k23x30)) k23x29
def k23x24 : AC := .seq (.seq (.ops false [
 o 85 (.move (t 0)),
 o 86 (.nilCheck (t 85)),
 o 87 (.fieldAddr 6 (t 86)),
 o 88 (.load (.cell .bool) (t 87)),
 o 89 (.un .not (t 88))]) k23x26) k23x25
def k23x23 : AC := .join 1
def k23x78 : AC := .ret
def k23x77 : AC := .seq (.mask 64) k23x78
def k23x76 : AC := .seq (.ops false [
 o 6 (.move (c 0))]) k23x77
def k23x22 : AC := .seq (.ops false [
 o 209 (.move (t 0)),
 o 210 (.nilCheck (t 209)),
 o 211 (.fieldAddr 8 (t 210)),
 o 212 (.load I (t 211)),
 o 213 (.bin .other .sub (t 212) (c 1)),
 o 214 (.nilCheck (t 209)),
 o 215 (.fieldAddr 8 (t 214)),
 u (.store 1 (t 215) (t 213))]) k23x76
def k23x21 : AC := .seq (.seq (.block 2 (.loop 2433 1 k23x24)) k23x23) k23x22
def k23x10 : AC := .seq (.ops false [
 o 11 (.move (c 0))]) k23x21
def k23x9 : AC := .seq (.seq (.ops false [
 o 69 (.fieldAddr 1 (t 7)),
 o 70 (.load (.cell .sl) (t 69)),
 o 71 (.lenSl (t 70)),
 o 72 (.move (c 0))]) k23x11) k23x10
def k23x8 : AC := .seq (.ops false [
 o 66 (.fieldAddr 2 (t 7)),
 o 67 (.load I (t 66)),
 o 68 (.makeSl [(.int .i64 0)] 8 (t 67) (t 67)),
 o 8 (.move (t 68))]) k23x9
def k23x7 : AC := .seq (.ops false [
 o 59 (.move (t 0)),
 o 60 (.nilCheck (t 59)),
 o 61 (.fieldAddr 0 (t 60)),
 o 62 (.load (.cell .sl) (t 61)),
 o 63 (.move (t 1)),
 o 64 (.indexAddr 4 (t 62) (t 63)),
 o 65 (.load (.agg [(.int .i64), .sl, (.int .i64), .sl]) (t 64)),
 o 7 (.allocL [(.int .i64 0), (.sl .nil 0), (.int .i64 0), (.sl .nil 0)]),
 u (.store 4 (t 7) (t 65))]) k23x8
def k23x1 : AC := .seq (.ops false [
 o 52 (.move (t 0)),
 o 53 (.nilCheck (t 52)),
 o 54 (.fieldAddr 8 (t 53)),
 o 55 (.load I (t 54)),
 o 56 (.bin .other .add (t 55) (c 1)),
 o 57 (.nilCheck (t 52)),
 o 58 (.fieldAddr 8 (t 57)),
 u (.store 1 (t 58) (t 56))]) k23x7
def k23x0 : AC := .seq (.seq (.ops true [
 o 18 (.move (t 1)),
 o 19 (.bin .other .lss (t 18) (c 0)),
 o 20 (.move (t 19)),
 f 21 20 (.move (t 1)),
 f 22 20 (.move (t 0)),
 f 23 20 (.nilCheck (t 22)),
 f 24 20 (.fieldAddr 0 (t 23)),
 f 25 20 (.load (.cell .sl) (t 24)),
 f 26 20 (.lenSl (t 25)),
 f 27 20 (.bin .other .geq (t 21) (t 26)),
 o 28 (.pick (t 20) (.c (.bool true)) (t 27)),
 o 29 (.move (t 28)),
 f 30 29 (.move (t 0)),
 f 31 29 (.nilCheck (t 30)),
 f 32 29 (.fieldAddr 8 (t 31)),
 f 33 29 (.load I (t 32)),
 f 34 29 (.bin .other .gtr (t 33) (c 500)),
 o 35 (.pick (t 29) (.c (.bool true)) (t 34)),
 o 36 (.move (t 35)),
 f 37 36 (.move (t 2)),
 f 38 36 (.lenSl (t 37)),
 f 39 36 (.move (t 0)),
 f 40 36 (.nilCheck (t 39)),
 f 41 36 (.fieldAddr 0 (t 40)),
 f 42 36 (.load (.cell .sl) (t 41)),
 f 43 36 (.move (t 1)),
 f 44 36 (.indexAddr 4 (t 42) (t 43)),
 f 45 36 (.fieldAddr 1 (t 44)),
 f 46 36 (.load (.cell .sl) (t 45)),
 f 47 36 (.lenSl (t 46)),
 f 48 36 (.bin .other .neq (t 38) (t 47)),
 o 49 (.pick (t 36) (.c (.bool true)) (t 48))]) k23x2) k23x1
def c23 : AFn := ⟨216, [.tmp 6],
 .seq (.ops false [
 o 6 (.move (c 0))]) k23x0⟩
def S23xe0 (p0 : Option Ad) (i7x0 : Int) (s7x1 : SA) (n7x1 : Nat) (i7x2 : Int) (s7x3 : SA) (n7x3 : Nat) (s8 : SA) (n8 : Nat) (h : Heap) : St := ⟨(vp p0 :: (rep 6 (.box [(.int .i64 i7x0), (.sl s7x1 n7x1), (.int .i64 i7x2), (.sl s7x3 n7x3)] :: (vl s8 n8 :: (rep 207 []))))), h⟩
def S23xe2 (p0 : Option Ad) (h : Heap) : St := ⟨(vp p0 :: (rep 215 [])), h⟩
def S23xe4 (p0 : Option Ad) (i7x0 : Int) (s7x1 : SA) (n7x1 : Nat) (i7x2 : Int) (s7x3 : SA) (n7x3 : Nat) (s8 : SA) (n8 : Nat) (i11 : Int) (h : Heap) : St := ⟨(vp p0 :: (rep 6 (.box [(.int .i64 i7x0), (.sl s7x1 n7x1), (.int .i64 i7x2), (.sl s7x3 n7x3)] :: (vl s8 n8 :: (.any :: .any :: (vi i11 :: (rep 204 []))))))), h⟩
def S23xr (i6 : Int) (h : Heap) : St := ⟨(rep 6 (vi i6 :: (rep 209 []))), h⟩
noncomputable def Q23x13 (M : Mk) (C : Cal) : Kont (AV × Heap) := (blockQ 0 (seqQ (evalE M C k23x12) (seqQ (evalE M C k23x10) (endQ [.tmp 6]))))
noncomputable def L23x13 (p0 : Option Ad) (s2 : SA) (n2 : Nat) (i7x0 : Int) (s7x1 : SA) (n7x1 : Nat) (i7x2 : Int) (s7x3 : SA) (n7x3 : Nat) (s8 : SA) (n8 : Nat) (s70 : SA) (n70 : Nat) (i71 i72 : Int) (h : Heap) (Q : Kont R) : Option R := loopE (evalE M C k23x13) 8264141345021879124357 385 ⟨(vp p0 :: (.any :: (vl s2 n2 :: (rep 4 (.box [(.int .i64 i7x0), (.sl s7x1 n7x1), (.int .i64 i7x2), (.sl s7x3 n7x3)] :: (vl s8 n8 :: (rep 61 (vl s70 n70 :: (vi i71 :: (vi i72 :: (rep 143 []))))))))))), h⟩ Q
noncomputable def Q23x24 (M : Mk) (C : Cal) : Kont (AV × Heap) := (blockQ 2 (seqQ (evalE M C k23x23) (seqQ (evalE M C k23x22) (endQ [.tmp 6]))))
noncomputable def L23x24 (p0 : Option Ad) (i7x0 : Int) (s7x1 : SA) (n7x1 : Nat) (i7x2 : Int) (s7x3 : SA) (n7x3 : Nat) (s8 : SA) (n8 : Nat) (i11 : Int) (h : Heap) (Q : Kont R) : Option R := loopE (evalE M C k23x24) 2433 1 ⟨(vp p0 :: (rep 6 (.box [(.int .i64 i7x0), (.sl s7x1 n7x1), (.int .i64 i7x2), (.sl s7x3 n7x3)] :: (vl s8 n8 :: (.any :: .any :: (vi i11 :: (rep 204 []))))))), h⟩ Q
noncomputable def Q23x33 (M : Mk) (C : Cal) (Q : Kont R) : Kont R := (blockQ 4 (seqQ (evalE M C k23x32) (seqQ (evalE M C k23x30) (blockQ 3 (seqQ (evalE M C k23x29) (roundQ M C k23x24 2433 1 Q))))))
noncomputable def L23x33 (p0 : Option Ad) (i7x0 : Int) (s7x1 : SA) (n7x1 : Nat) (i7x2 : Int) (s7x3 : SA) (n7x3 : Nat) (s8 : SA) (n8 : Nat) (i11 : Int) (s95 : SA) (n95 : Nat) (i96 i97 : Int) (h : Heap) (Q : Kont R) : Option R := loopE (evalE M C k23x33) 277298568799925181577403828609 2433 ⟨(vp p0 :: (rep 6 (.box [(.int .i64 i7x0), (.sl s7x1 n7x1), (.int .i64 i7x2), (.sl s7x3 n7x3)] :: (vl s8 n8 :: (.any :: .any :: (vi i11 :: (rep 83 (vl s95 n95 :: (vi i96 :: (vi i97 :: (rep 118 []))))))))))), h⟩ Q
noncomputable def J23x75 (M : Mk) (C : Cal) (p0 : Option Ad) (h : Heap) : Res := M (AV × Heap) (seqQ (evalE M C k23x22) (endQ [.tmp 6])) (vp p0 :: (rep 215 [])) h
noncomputable def J23x45 (M : Mk) (C : Cal) (p0 : Option Ad) (i7x0 : Int) (s7x1 : SA) (n7x1 : Nat) (i7x2 : Int) (s7x3 : SA) (n7x3 : Nat) (s8 : SA) (n8 : Nat) (i11 : Int) (h : Heap) (Q : Kont R) : Option R := M R (seqQ (evalE M C k23x30) (blockQ 3 (seqQ (evalE M C k23x29) (roundQ M C k23x24 2433 1 Q)))) (vp p0 :: (rep 6 (.box [(.int .i64 i7x0), (.sl s7x1 n7x1), (.int .i64 i7x2), (.sl s7x3 n7x3)] :: (vl s8 n8 :: (.any :: .any :: (vi i11 :: (rep 204 []))))))) h
noncomputable def J23x50 (M : Mk) (C : Cal) (p0 : Option Ad) (i7x0 : Int) (s7x1 : SA) (n7x1 : Nat) (i7x2 : Int) (s7x3 : SA) (n7x3 : Nat) (s8 : SA) (n8 : Nat) (i11 : Int) (h : Heap) (Q : Kont R) : Option R := M R (seqQ (evalE M C k23x46) (blockQ 3 (seqQ (evalE M C k23x29) (roundQ M C k23x24 2433 1 Q)))) (vp p0 :: (rep 6 (.box [(.int .i64 i7x0), (.sl s7x1 n7x1), (.int .i64 i7x2), (.sl s7x3 n7x3)] :: (vl s8 n8 :: (.any :: .any :: (vi i11 :: (rep 204 []))))))) h
noncomputable def J23x74 (M : Mk) (C : Cal) (p0 : Option Ad) (i7x0 : Int) (s7x1 : SA) (n7x1 : Nat) (i7x2 : Int) (s7x3 : SA) (n7x3 : Nat) (s8 : SA) (n8 : Nat) (i11 : Int) (h : Heap) (Q : Kont R) : Option R := M R (seqQ (evalE M C k23x59) (blockQ 6 (seqQ (evalE M C k23x57) (blockQ 3 (seqQ (evalE M C k23x29) (roundQ M C k23x24 2433 1 Q)))))) (vp p0 :: (rep 6 (.box [(.int .i64 i7x0), (.sl s7x1 n7x1), (.int .i64 i7x2), (.sl s7x3 n7x3)] :: (vl s8 n8 :: (.any :: .any :: (vi i11 :: (rep 204 []))))))) h
noncomputable def J23x73 (M : Mk) (C : Cal) (p0 : Option Ad) (i7x0 : Int) (s7x1 : SA) (n7x1 : Nat) (i7x2 : Int) (s7x3 : SA) (n7x3 : Nat) (s8 : SA) (n8 : Nat) (i11 : Int) (h : Heap) (Q : Kont R) : Option R := M R (seqQ (evalE M C k23x64) (seqQ (evalE M C k23x59) (blockQ 6 (seqQ (evalE M C k23x57) (blockQ 3 (seqQ (evalE M C k23x29) (roundQ M C k23x24 2433 1 Q))))))) (vp p0 :: (rep 6 (.box [(.int .i64 i7x0), (.sl s7x1 n7x1), (.int .i64 i7x2), (.sl s7x3 n7x3)] :: (vl s8 n8 :: (.any :: .any :: (vi i11 :: (rep 204 []))))))) h
noncomputable def J23x72 (M : Mk) (C : Cal) (p0 : Option Ad) (i7x0 : Int) (s7x1 : SA) (n7x1 : Nat) (i7x2 : Int) (s7x3 : SA) (n7x3 : Nat) (s8 : SA) (n8 : Nat) (i11 : Int) (h : Heap) (Q : Kont R) : Option R := M R (seqQ (evalE M C k23x66) (seqQ (evalE M C k23x64) (seqQ (evalE M C k23x59) (blockQ 6 (seqQ (evalE M C k23x57) (blockQ 3 (seqQ (evalE M C k23x29) (roundQ M C k23x24 2433 1 Q)))))))) (vp p0 :: (rep 6 (.box [(.int .i64 i7x0), (.sl s7x1 n7x1), (.int .i64 i7x2), (.sl s7x3 n7x3)] :: (vl s8 n8 :: (.any :: .any :: (vi i11 :: (rep 204 []))))))) h
theorem r23 (p0 : Option Ad) (i1 : Int) (s2 : SA) (n2 : Nat) (h : Heap) : runE M C c23 [(.ptr p0), (.int .i64 i1), (.sl s2 n2)] h = (
 letK (decide (i1 < 0)) fun b19 =>
 atP p0 (!b19) fun a23 =>
 atP (some a23) (!b19) fun a24 =>
 atP (some (Ad.add a24 0)) (!b19) fun a25 =>
 gL (ld1 h a25) (!b19) fun s25 n25 =>
 letK (decide (((n25 : Int) : Int) ≤ i1)) fun b27 =>
 letK (if b19 = true then true else b27) fun b28 =>
 atP p0 (!b28) fun a31 =>
 atP (some a31) (!b28) fun a32 =>
 atP (some (Ad.add a32 8)) (!b28) fun a33 =>
 gI .i64 (ld1 h a33) (!b28) fun i33 =>
 letK (decide ((500 : Int) < i33)) fun b34 =>
 letK (if b28 = true then true else b34) fun b35 =>
 atP p0 (!b35) fun a40 =>
 atP (some a40) (!b35) fun a41 =>
 atP (some (Ad.add a41 0)) (!b35) fun a42 =>
 gL (ld1 h a42) (!b35) fun s42 n42 =>
 chk ((!b35) = true → 0 ≤ i1 ∧ i1 < (n42 : Int)) <|
 atP (adP s42) (!b35) fun a44 =>
 atP (some (Ad.add a44 (Int.toNat i1 * 4))) (!b35) fun a45 =>
 atP (some (Ad.add a45 1)) (!b35) fun a46 =>
 gL (ld1 h a46) (!b35) fun s46 n46 =>
 letK (!decide (((n2 : Int) : Int) = (n46 : Int))) fun b48 =>
 letK (if b35 = true then true else b48) fun b49 =>
 if b49 = true then
  (
  (C 55 [(.ptr p0)] h).bind fun r51 =>
  gT 0 r51.1 true fun u51 =>
  some ((.int .i64 0), r51.2)
  )
 else
  (
  atP p0 true fun a53 =>
  gI .i64 (ld1 h (Ad.add a53 8)) true fun i55 =>
  letK (IntKind.wrap .i64 (i55 + 1)) fun i56 =>
  atP p0 true fun a57 =>
  (st1 h (Ad.add a57 8) (.int .i64 i56)).bind fun h_2 =>
  atP p0 true fun a60 =>
  gL (ld1 h_2 (Ad.add a60 0)) true fun s62 n62 =>
  chk (true = true → 0 ≤ i1 ∧ i1 < (n62 : Int)) <|
  atP (adP s62) true fun a64 =>
  gCells (ldN h_2 (Ad.add a64 (Int.toNat i1 * 4)) 4) true fun l65 =>
  gI .i64 (l65[0]?) true fun i65x0 =>
  gL (l65[1]?) true fun s65x1 n65x1 =>
  gI .i64 (l65[2]?) true fun i65x2 =>
  gL (l65[3]?) true fun s65x3 n65x3 =>
  chk (0 ≤ i65x2 ∧ i65x2 ≤ i65x2 ∧ i65x2 * ((8 : Nat) : Int) ≤ 70368744177664) <|
  newK h_2 (.cells (repl (Int.toNat i65x2) [(.int .i64 0)]) (.grow 1) 0) fun h_3 =>
  letK (Int.toNat i65x2) fun n68 =>
  L23x13 M C p0 s2 n2 i65x0 s65x1 n65x1 i65x2 s65x3 n65x3 (.pos ⟨List.length h_2, 0, 0⟩) n68 s65x1 n65x1 (n65x1 : Int) 0 h_3 (Q23x13 M C)
  )
 ) := by kernel_rfl
theorem cf23 : cFn Try.prog 23 = some c23 := by kernel_rfl
theorem e23 (p0 : Option Ad) (i1 : Int) (s2 : SA) (n2 : Nat) (h : Heap) : TEq (E 23 [(.ptr p0), (.int .i64 i1), (.sl s2 n2)] h) (r23 mk0 E p0 i1 s2 n2 h) := (EV_eq (P := Try.prog) (T := T0) rfl cf23 _ h).trans (r23 mk0 E p0 i1 s2 n2 h)
theorem L23x13xaux (p0 : Option Ad) (s2 : SA) (n2 : Nat) (i7x0 : Int) (s7x1 : SA) (n7x1 : Nat) (i7x2 : Int) (s7x3 : SA) (n7x3 : Nat) (s8 : SA) (n8 : Nat) (s70 : SA) (n70 : Nat) (i71 i72 : Int) (h : Heap) (Q : Kont R) : (restrF 8264141345021879124357 ⟨(vp p0 :: (.any :: (vl s2 n2 :: (rep 4 (.box [(.int .i64 i7x0), (.sl s7x1 n7x1), (.int .i64 i7x2), (.sl s7x3 n7x3)] :: (vl s8 n8 :: (rep 61 (vl s70 n70 :: (vi i71 :: (vi i72 :: (rep 143 []))))))))))), h⟩ fun σ => evalE M C k23x13 σ (roundQ M C k23x13 8264141345021879124357 385 Q)) = (
 letK (decide (i72 < i71)) fun b73 =>
 if b73 = true then
  (
  chk (true = true → 0 ≤ i72 ∧ i72 < (n70 : Int)) <|
  atP (adP s70) true fun a75 =>
  gI .i64 (ld1 h (Ad.add a75 (Int.toNat i72 * 1))) true fun i76 =>
  chk (true = true → 0 ≤ i72 ∧ i72 < (n2 : Int)) <|
  atP (adP s2) true fun a81 =>
  gI .i64 (ld1 h (Ad.add a81 (Int.toNat i72 * 1))) true fun i82 =>
  chk (true = true → 0 ≤ i76 ∧ i76 < (n8 : Int)) <|
  atP (adP s8) true fun a83 =>
  (st1 h (Ad.add a83 (Int.toNat i76 * 1)) (.int .i64 i82)).bind fun h_2 =>
  letK (IntKind.wrap .i64 (i72 + 1)) fun i84 =>
  L23x13 M C p0 s2 n2 i7x0 s7x1 n7x1 i7x2 s7x3 n7x3 s8 n8 s70 n70 i71 i84 h_2 Q
  )
 else
  (
  Q (.exit 0) (S23xe0 p0 i7x0 s7x1 n7x1 i7x2 s7x3 n7x3 s8 n8 h)
  )
 ) := by kernel_rfl
theorem L23x13xeq (p0 : Option Ad) (s2 : SA) (n2 : Nat) (i7x0 : Int) (s7x1 : SA) (n7x1 : Nat) (i7x2 : Int) (s7x3 : SA) (n7x3 : Nat) (s8 : SA) (n8 : Nat) (s70 : SA) (n70 : Nat) (i71 i72 : Int) (h : Heap) (Q : Kont R) : TEq (L23x13 mk0 C p0 s2 n2 i7x0 s7x1 n7x1 i7x2 s7x3 n7x3 s8 n8 s70 n70 i71 i72 h Q) (L23x13xaux mk0 C p0 s2 n2 i7x0 s7x1 n7x1 i7x2 s7x3 n7x3 s8 n8 s70 n70 i71 i72 h Q) := loop_eqn _ _ _ _ _ h Q (by kernel_rfl) (L23x13xaux mk0 C p0 s2 n2 i7x0 s7x1 n7x1 i7x2 s7x3 n7x3 s8 n8 s70 n70 i71 i72 h Q)
theorem X23x13xe0 (p0 : Option Ad) (i7x0 : Int) (s7x1 : SA) (n7x1 : Nat) (i7x2 : Int) (s7x3 : SA) (n7x3 : Nat) (s8 : SA) (n8 : Nat) (h : Heap) : Q23x13 M C (.exit 0) (S23xe0 p0 i7x0 s7x1 n7x1 i7x2 s7x3 n7x3 s8 n8 h) = (
 L23x24 M C p0 i7x0 s7x1 n7x1 i7x2 s7x3 n7x3 s8 n8 0 h (Q23x24 M C)
 ) := by kernel_rfl
theorem L23x24xaux (p0 : Option Ad) (i7x0 : Int) (s7x1 : SA) (n7x1 : Nat) (i7x2 : Int) (s7x3 : SA) (n7x3 : Nat) (s8 : SA) (n8 : Nat) (i11 : Int) (h : Heap) (Q : Kont R) : (restrF 2433 ⟨(vp p0 :: (rep 6 (.box [(.int .i64 i7x0), (.sl s7x1 n7x1), (.int .i64 i7x2), (.sl s7x3 n7x3)] :: (vl s8 n8 :: (.any :: .any :: (vi i11 :: (rep 204 []))))))), h⟩ fun σ => evalE M C k23x24 σ (roundQ M C k23x24 2433 1 Q)) = (
 atP p0 true fun a86 =>
 gB (ld1 h (Ad.add a86 6)) true fun b88 =>
 if (!b88) = true then
  (
  chk (true = true → 0 ≤ i11 ∧ i11 < (n7x3 : Int)) <|
  atP (adP s7x3) true fun a93 =>
  gL (ld1 h (Ad.add (Ad.add a93 (Int.toNat i11 * 7)) 0)) true fun s95 n95 =>
  L23x33 M C p0 i7x0 s7x1 n7x1 i7x2 s7x3 n7x3 s8 n8 i11 s95 n95 (n95 : Int) 0 h (Q23x33 M C Q)
  )
 else
  (
  Q (.exit 2) (S23xe2 p0 h)
  )
 ) := by kernel_rfl
theorem L23x24xeq (p0 : Option Ad) (i7x0 : Int) (s7x1 : SA) (n7x1 : Nat) (i7x2 : Int) (s7x3 : SA) (n7x3 : Nat) (s8 : SA) (n8 : Nat) (i11 : Int) (h : Heap) (Q : Kont R) : TEq (L23x24 mk0 C p0 i7x0 s7x1 n7x1 i7x2 s7x3 n7x3 s8 n8 i11 h Q) (L23x24xaux mk0 C p0 i7x0 s7x1 n7x1 i7x2 s7x3 n7x3 s8 n8 i11 h Q) := loop_eqn _ _ _ _ _ h Q (by kernel_rfl) (L23x24xaux mk0 C p0 i7x0 s7x1 n7x1 i7x2 s7x3 n7x3 s8 n8 i11 h Q)
theorem L23x33xaux (p0 : Option Ad) (i7x0 : Int) (s7x1 : SA) (n7x1 : Nat) (i7x2 : Int) (s7x3 : SA) (n7x3 : Nat) (s8 : SA) (n8 : Nat) (i11 : Int) (s95 : SA) (n95 : Nat) (i96 i97 : Int) (h : Heap) (Q : Kont R) : (restrF 277298568799925181577403828609 ⟨(vp p0 :: (rep 6 (.box [(.int .i64 i7x0), (.sl s7x1 n7x1), (.int .i64 i7x2), (.sl s7x3 n7x3)] :: (vl s8 n8 :: (.any :: .any :: (vi i11 :: (rep 83 (vl s95 n95 :: (vi i96 :: (vi i97 :: (rep 118 []))))))))))), h⟩ fun σ => evalE M C k23x33 σ (roundQ M C k23x33 277298568799925181577403828609 2433 Q)) = (
 letK (decide (i97 < i96)) fun b98 =>
 if b98 = true then
  (
  chk (true = true → 0 ≤ i97 ∧ i97 < (n95 : Int)) <|
  atP (adP s95) true fun a99 =>
  gCells (ldN h (Ad.add a99 (Int.toNat i97 * 6)) 6) true fun l100 =>
  gI .i64 (l100[0]?) true fun i100x0 =>
  gI .i64 (l100[1]?) true fun i100x1 =>
  gI .i64 (l100[2]?) true fun i100x2 =>
  gI .i64 (l100[3]?) true fun i100x3 =>
  gI .i64 (l100[4]?) true fun i100x4 =>
  gL (l100[5]?) true fun s100x5 n100x5 =>
  (C 56 [(.ptr p0), (.sl s8 n8), (.agg [(.int .i64 i100x0), (.int .i64 i100x1), (.int .i64 i100x2), (.int .i64 i100x3), (.int .i64 i100x4), (.sl s100x5 n100x5)])] h).bind fun r104 =>
  gT 0 r104.1 true fun u104 =>
  atP p0 true fun a106 =>
  gB (ld1 r104.2 (Ad.add a106 6)) true fun b108 =>
  if b108 = true then
   (
   Q (.exit 4) (S23xe4 p0 i7x0 s7x1 n7x1 i7x2 s7x3 n7x3 s8 n8 i11 r104.2)
   )
  else
   (
   letK (IntKind.wrap .i64 (i97 + 1)) fun i109 =>
   L23x33 M C p0 i7x0 s7x1 n7x1 i7x2 s7x3 n7x3 s8 n8 i11 s95 n95 i96 i109 r104.2 Q
   )
  )
 else
  (
  Q (.exit 4) (S23xe4 p0 i7x0 s7x1 n7x1 i7x2 s7x3 n7x3 s8 n8 i11 h)
  )
 ) := by kernel_rfl
theorem L23x33xeq (p0 : Option Ad) (i7x0 : Int) (s7x1 : SA) (n7x1 : Nat) (i7x2 : Int) (s7x3 : SA) (n7x3 : Nat) (s8 : SA) (n8 : Nat) (i11 : Int) (s95 : SA) (n95 : Nat) (i96 i97 : Int) (h : Heap) (Q : Kont R) : TEq (L23x33 mk0 C p0 i7x0 s7x1 n7x1 i7x2 s7x3 n7x3 s8 n8 i11 s95 n95 i96 i97 h Q) (L23x33xaux mk0 C p0 i7x0 s7x1 n7x1 i7x2 s7x3 n7x3 s8 n8 i11 s95 n95 i96 i97 h Q) := loop_eqn _ _ _ _ _ h Q (by kernel_rfl) (L23x33xaux mk0 C p0 i7x0 s7x1 n7x1 i7x2 s7x3 n7x3 s8 n8 i11 s95 n95 i96 i97 h Q)
theorem X23x24xe2 (p0 : Option Ad) (h : Heap) : Q23x24 M C (.exit 2) (S23xe2 p0 h) = (
 J23x75 M C p0 h
 ) := by kernel_rfl
theorem J23x75xaux (M : Mk) (C : Cal) (p0 : Option Ad) (h : Heap) : (forceK tk (vp p0 :: (rep 215 [])) fun e => (seqQ (evalE M C k23x22) (endQ [.tmp 6])) .normal ⟨e, h⟩) = (
 atP p0 true fun a210 =>
 gI .i64 (ld1 h (Ad.add a210 8)) true fun i212 =>
 letK (IntKind.wrap .i64 (i212 - 1)) fun i213 =>
 atP p0 true fun a214 =>
 (st1 h (Ad.add a214 8) (.int .i64 i213)).bind fun h_2 =>
 some ((.int .i64 0), h_2)
 ) := by kernel_rfl
theorem J23x75xeq (C : Cal) (p0 : Option Ad) (h : Heap) : TEq (J23x75 mk0 C p0 h) (J23x75xaux mk0 C p0 h) := join_eqn _ _ h (J23x75xaux mk0 C p0 h)
theorem X23x33xe4 (p0 : Option Ad) (i7x0 : Int) (s7x1 : SA) (n7x1 : Nat) (i7x2 : Int) (s7x3 : SA) (n7x3 : Nat) (s8 : SA) (n8 : Nat) (i11 : Int) (h : Heap) (Q : Kont R) : Q23x33 M C Q (.exit 4) (S23xe4 p0 i7x0 s7x1 n7x1 i7x2 s7x3 n7x3 s8 n8 i11 h) = (
 J23x45 M C p0 i7x0 s7x1 n7x1 i7x2 s7x3 n7x3 s8 n8 i11 h Q
 ) := by kernel_rfl
theorem J23x45xaux (M : Mk) (C : Cal) (p0 : Option Ad) (i7x0 : Int) (s7x1 : SA) (n7x1 : Nat) (i7x2 : Int) (s7x3 : SA) (n7x3 : Nat) (s8 : SA) (n8 : Nat) (i11 : Int) (h : Heap) (Q : Kont R) : (forceK tk (vp p0 :: (rep 6 (.box [(.int .i64 i7x0), (.sl s7x1 n7x1), (.int .i64 i7x2), (.sl s7x3 n7x3)] :: (vl s8 n8 :: (.any :: .any :: (vi i11 :: (rep 204 []))))))) fun e => (seqQ (evalE M C k23x30) (blockQ 3 (seqQ (evalE M C k23x29) (roundQ M C k23x24 2433 1 Q)))) .normal ⟨e, h⟩) = (
 atP p0 true fun a111 =>
 gI .i64 (ld1 h (Ad.add a111 3)) true fun i113 =>
 letK (IntKind.wrap .i64 (i113 - 1)) fun i114 =>
 atP p0 true fun a115 =>
 (st1 h (Ad.add a115 3) (.int .i64 i114)).bind fun h_2 =>
 atP p0 true fun a118 =>
 gI .i64 (ld1 h_2 (Ad.add a118 3)) true fun i120 =>
 letK (decide (i120 < 0)) fun b121 =>
 if b121 = true then
  (
  (C 55 [(.ptr p0)] h_2).bind fun r123 =>
  gT 0 r123.1 true fun u123 =>
  J23x50 M C p0 i7x0 s7x1 n7x1 i7x2 s7x3 n7x3 s8 n8 i11 r123.2 Q
  )
 else
  (
  J23x50 M C p0 i7x0 s7x1 n7x1 i7x2 s7x3 n7x3 s8 n8 i11 h_2 Q
  )
 ) := by kernel_rfl
theorem J23x45xeq (C : Cal) (p0 : Option Ad) (i7x0 : Int) (s7x1 : SA) (n7x1 : Nat) (i7x2 : Int) (s7x3 : SA) (n7x3 : Nat) (s8 : SA) (n8 : Nat) (i11 : Int) (h : Heap) (Q : Kont R) : TEq (J23x45 mk0 C p0 i7x0 s7x1 n7x1 i7x2 s7x3 n7x3 s8 n8 i11 h Q) (J23x45xaux mk0 C p0 i7x0 s7x1 n7x1 i7x2 s7x3 n7x3 s8 n8 i11 h Q) := join_eqn _ _ h (J23x45xaux mk0 C p0 i7x0 s7x1 n7x1 i7x2 s7x3 n7x3 s8 n8 i11 h Q)
theorem J23x50xaux (M : Mk) (C : Cal) (p0 : Option Ad) (i7x0 : Int) (s7x1 : SA) (n7x1 : Nat) (i7x2 : Int) (s7x3 : SA) (n7x3 : Nat) (s8 : SA) (n8 : Nat) (i11 : Int) (h : Heap) (Q : Kont R) : (forceK tk (vp p0 :: (rep 6 (.box [(.int .i64 i7x0), (.sl s7x1 n7x1), (.int .i64 i7x2), (.sl s7x3 n7x3)] :: (vl s8 n8 :: (.any :: .any :: (vi i11 :: (rep 204 []))))))) fun e => (seqQ (evalE M C k23x46) (blockQ 3 (seqQ (evalE M C k23x29) (roundQ M C k23x24 2433 1 Q)))) .normal ⟨e, h⟩) = (
 atP p0 true fun a125 =>
 gB (ld1 h (Ad.add a125 6)) true fun b127 =>
 if b127 = true then
  (
  Q (.exit 2) (S23xe2 p0 h)
  )
 else
  (
  chk (true = true → 0 ≤ i11 ∧ i11 < (n7x3 : Int)) <|
  atP (adP s7x3) true fun a131 =>
  gCells (ldN h (Ad.add (Ad.add a131 (Int.toNat i11 * 7)) 1) 6) true fun l133 =>
  gI .i64 (l133[0]?) true fun i133x0 =>
  gI .i64 (l133[1]?) true fun i133x1 =>
  gI .i64 (l133[2]?) true fun i133x2 =>
  gI .i64 (l133[3]?) true fun i133x3 =>
  gI .i64 (l133[4]?) true fun i133x4 =>
  gL (l133[5]?) true fun s133x5 n133x5 =>
  letK (decide (i133x0 = 0)) fun b184 =>
  if b184 = true then
   (
   atP p0 true fun a186 =>
   gI .i64 (ld1 h (Ad.add a186 8)) true fun i188 =>
   letK (IntKind.wrap .i64 (i188 - 1)) fun i189 =>
   atP p0 true fun a190 =>
   (st1 h (Ad.add a190 8) (.int .i64 i189)).bind fun h_2 =>
   chk (true = true → 0 ≤ i133x2 ∧ i133x2 < (n8 : Int)) <|
   atP (adP s8) true fun a195 =>
   gI .i64 (ld1 h_2 (Ad.add a195 (Int.toNat i133x2 * 1))) true fun i196 =>
   Q .ret (S23xr i196 h_2)
   )
  else
   (
   letK (decide (i133x0 = 3)) fun b198 =>
   if b198 = true then
    (
    (C 57 [(.ptr p0), (.int .i64 i133x4)] h).bind fun r202 =>
    gT 0 r202.1 true fun u202 =>
    J23x74 M C p0 i7x0 s7x1 n7x1 i7x2 s7x3 n7x3 s8 n8 i11 r202.2 Q
    )
   else
    (
    letK (decide (i133x0 = 1)) fun b204 =>
    if b204 = true then
     (
     chk (true = true → (0 : Int) ≤ 0 ∧ (0 : Int) < (n133x5 : Int)) <|
     atP (adP s133x5) true fun a207 =>
     gI .i64 (ld1 h (Ad.add a207 (Int.toNat 0 * 1))) true fun i208 =>
     J23x73 M C p0 i7x0 s7x1 n7x1 i7x2 s7x3 n7x3 s8 n8 i208 h Q
     )
    else
     (
     chk (true = true → 0 ≤ i133x2 ∧ i133x2 < (n8 : Int)) <|
     atP (adP s8) true fun a139 =>
     gI .i64 (ld1 h (Ad.add a139 (Int.toNat i133x2 * 1))) true fun i140 =>
     chk (true = true → 0 ≤ i133x3 ∧ i133x3 < (n8 : Int)) <|
     atP (adP s8) true fun a144 =>
     gI .i64 (ld1 h (Ad.add a144 (Int.toNat i133x3 * 1))) true fun i145 =>
     letK (decide (i133x1 = 16)) fun b148 =>
     letK (decide (i140 = i145)) fun b152 =>
     letK (if b148 = true then b152 else false) fun b153 =>
     gI .i64 (some (.int .i64 i133x1)) (!b153) fun i156 =>
     letK (decide (i156 = 17)) fun b157 =>
     letK (!decide (i140 = i145)) fun b161 =>
     letK (if b157 = true then b161 else false) fun b162 =>
     letK (if b153 = true then true else b162) fun b163 =>
     gI .i64 (some (.int .i64 i133x1)) (!b163) fun i166 =>
     letK (decide (i166 = 18)) fun b167 =>
     letK (decide (i140 < i145)) fun b171 =>
     letK (if b167 = true then b171 else false) fun b172 =>
     letK (if b163 = true then true else b172) fun b173 =>
     chk (true = true → (0 : Int) ≤ 1 ∧ (1 : Int) < (n133x5 : Int)) <|
     atP (adP s133x5) true fun a176 =>
     gI .i64 (ld1 h (Ad.add a176 (Int.toNat 1 * 1))) true fun i177 =>
     if b173 = true then
      (
      chk (true = true → (0 : Int) ≤ 0 ∧ (0 : Int) < (n133x5 : Int)) <|
      atP (adP s133x5) true fun a181 =>
      gI .i64 (ld1 h (Ad.add a181 (Int.toNat 0 * 1))) true fun i182 =>
      J23x72 M C p0 i7x0 s7x1 n7x1 i7x2 s7x3 n7x3 s8 n8 i182 h Q
      )
     else
      (
      J23x72 M C p0 i7x0 s7x1 n7x1 i7x2 s7x3 n7x3 s8 n8 i177 h Q
      )
     )
    )
   )
  )
 ) := by kernel_rfl
theorem J23x50xeq (C : Cal) (p0 : Option Ad) (i7x0 : Int) (s7x1 : SA) (n7x1 : Nat) (i7x2 : Int) (s7x3 : SA) (n7x3 : Nat) (s8 : SA) (n8 : Nat) (i11 : Int) (h : Heap) (Q : Kont R) : TEq (J23x50 mk0 C p0 i7x0 s7x1 n7x1 i7x2 s7x3 n7x3 s8 n8 i11 h Q) (J23x50xaux mk0 C p0 i7x0 s7x1 n7x1 i7x2 s7x3 n7x3 s8 n8 i11 h Q) := join_eqn _ _ h (J23x50xaux mk0 C p0 i7x0 s7x1 n7x1 i7x2 s7x3 n7x3 s8 n8 i11 h Q)
theorem J23x74xaux (M : Mk) (C : Cal) (p0 : Option Ad) (i7x0 : Int) (s7x1 : SA) (n7x1 : Nat) (i7x2 : Int) (s7x3 : SA) (n7x3 : Nat) (s8 : SA) (n8 : Nat) (i11 : Int) (h : Heap) (Q : Kont R) : (forceK tk (vp p0 :: (rep 6 (.box [(.int .i64 i7x0), (.sl s7x1 n7x1), (.int .i64 i7x2), (.sl s7x3 n7x3)] :: (vl s8 n8 :: (.any :: .any :: (vi i11 :: (rep 204 []))))))) fun e => (seqQ (evalE M C k23x59) (blockQ 6 (seqQ (evalE M C k23x57) (blockQ 3 (seqQ (evalE M C k23x29) (roundQ M C k23x24 2433 1 Q)))))) .normal ⟨e, h⟩) = (
 L23x24 M C p0 i7x0 s7x1 n7x1 i7x2 s7x3 n7x3 s8 n8 i11 h Q
 ) := by kernel_rfl
theorem J23x74xeq (C : Cal) (p0 : Option Ad) (i7x0 : Int) (s7x1 : SA) (n7x1 : Nat) (i7x2 : Int) (s7x3 : SA) (n7x3 : Nat) (s8 : SA) (n8 : Nat) (i11 : Int) (h : Heap) (Q : Kont R) : TEq (J23x74 mk0 C p0 i7x0 s7x1 n7x1 i7x2 s7x3 n7x3 s8 n8 i11 h Q) (J23x74xaux mk0 C p0 i7x0 s7x1 n7x1 i7x2 s7x3 n7x3 s8 n8 i11 h Q) := join_eqn _ _ h (J23x74xaux mk0 C p0 i7x0 s7x1 n7x1 i7x2 s7x3 n7x3 s8 n8 i11 h Q)
theorem J23x73xaux (M : Mk) (C : Cal) (p0 : Option Ad) (i7x0 : Int) (s7x1 : SA) (n7x1 : Nat) (i7x2 : Int) (s7x3 : SA) (n7x3 : Nat) (s8 : SA) (n8 : Nat) (i11 : Int) (h : Heap) (Q : Kont R) : (forceK tk (vp p0 :: (rep 6 (.box [(.int .i64 i7x0), (.sl s7x1 n7x1), (.int .i64 i7x2), (.sl s7x3 n7x3)] :: (vl s8 n8 :: (.any :: .any :: (vi i11 :: (rep 204 []))))))) fun e => (seqQ (evalE M C k23x64) (seqQ (evalE M C k23x59) (blockQ 6 (seqQ (evalE M C k23x57) (blockQ 3 (seqQ (evalE M C k23x29) (roundQ M C k23x24 2433 1 Q))))))) .normal ⟨e, h⟩) = (
 J23x74 M C p0 i7x0 s7x1 n7x1 i7x2 s7x3 n7x3 s8 n8 i11 h Q
 ) := by kernel_rfl
theorem J23x73xeq (C : Cal) (p0 : Option Ad) (i7x0 : Int) (s7x1 : SA) (n7x1 : Nat) (i7x2 : Int) (s7x3 : SA) (n7x3 : Nat) (s8 : SA) (n8 : Nat) (i11 : Int) (h : Heap) (Q : Kont R) : TEq (J23x73 mk0 C p0 i7x0 s7x1 n7x1 i7x2 s7x3 n7x3 s8 n8 i11 h Q) (J23x73xaux mk0 C p0 i7x0 s7x1 n7x1 i7x2 s7x3 n7x3 s8 n8 i11 h Q) := join_eqn _ _ h (J23x73xaux mk0 C p0 i7x0 s7x1 n7x1 i7x2 s7x3 n7x3 s8 n8 i11 h Q)
theorem J23x72xaux (M : Mk) (C : Cal) (p0 : Option Ad) (i7x0 : Int) (s7x1 : SA) (n7x1 : Nat) (i7x2 : Int) (s7x3 : SA) (n7x3 : Nat) (s8 : SA) (n8 : Nat) (i11 : Int) (h : Heap) (Q : Kont R) : (forceK tk (vp p0 :: (rep 6 (.box [(.int .i64 i7x0), (.sl s7x1 n7x1), (.int .i64 i7x2), (.sl s7x3 n7x3)] :: (vl s8 n8 :: (.any :: .any :: (vi i11 :: (rep 204 []))))))) fun e => (seqQ (evalE M C k23x66) (seqQ (evalE M C k23x64) (seqQ (evalE M C k23x59) (blockQ 6 (seqQ (evalE M C k23x57) (blockQ 3 (seqQ (evalE M C k23x29) (roundQ M C k23x24 2433 1 Q)))))))) .normal ⟨e, h⟩) = (
 J23x73 M C p0 i7x0 s7x1 n7x1 i7x2 s7x3 n7x3 s8 n8 i11 h Q
 ) := by kernel_rfl
theorem J23x72xeq (C : Cal) (p0 : Option Ad) (i7x0 : Int) (s7x1 : SA) (n7x1 : Nat) (i7x2 : Int) (s7x3 : SA) (n7x3 : Nat) (s8 : SA) (n8 : Nat) (i11 : Int) (h : Heap) (Q : Kont R) : TEq (J23x72 mk0 C p0 i7x0 s7x1 n7x1 i7x2 s7x3 n7x3 s8 n8 i11 h Q) (J23x72xaux mk0 C p0 i7x0 s7x1 n7x1 i7x2 s7x3 n7x3 s8 n8 i11 h Q) := join_eqn _ _ h (J23x72xaux mk0 C p0 i7x0 s7x1 n7x1 i7x2 s7x3 n7x3 s8 n8 i11 h Q)
theorem X23x24xr (i6 : Int) (h : Heap) : Q23x24 M C .ret (S23xr i6 h) = (
 some ((.int .i64 i6), h)
 ) := by kernel_rfl
def k7x5 : AC := .ret
def k7x4 : AC := .seq (.mask 64) k7x5
def k7x3 : AC := .mask 28
def k7x2 : AC := .seq (.cond (.tmp 24)
 (.seq (.ops false [
 o 6 (.move (.c (.bool false)))]) k7x4)
  (.skip)) k7x3
def k7x10 : AC := .ret
def k7x9 : AC := .seq (.mask 64) k7x10
def k7x8 : AC := .mask 28
def k7x7 : AC := .seq (.cond (.tmp 33)
 (.seq (.ops false [
 o 6 (.move (.c (.bool true)))]) k7x9)
  (.skip)) k7x8
def k7x20 : AC := .exit 0
def k7x19 : AC := .mask 7696581394828
def k7x28 : AC := .ret
def k7x27 : AC := .seq (.mask 64) k7x28
def k7x26 : AC := .mask 7696581394828
def k7x25 : AC := .seq (.cond (.tmp 62)
 (.seq (.ops false [
 o 6 (.move (.c (.bool true)))]) k7x27)
  (.skip)) k7x26
def k7x24 : AC := .seq (.ops false [
 o 55 (.fieldAddr 1 (t 8)),
 o 56 (.load (.cell .sl) (t 55)),
 o 57 (.move (t 9)),
 o 58 (.slice 1 (t 56) none (some (t 57))),
 o 59 (.move (t 7)),
 o 60 (.move (t 10)),
  ⟨(some 61), .callV (.tmp 59) [(.tmp 60)] [(.cell (.int .i64))] (.int .i64 0), none, [.load 1 55 none, .sl 56 none]⟩,
 o 62 (.call 20 [(t 58), (t 61)] [(.cell .bool)] (.bool false))]) k7x25
def k7x23 : AC := .seq (.ops false [
 o 47 (.fieldAddr 1 (t 8)),
 o 48 (.load (.cell .sl) (t 47)),
 o 49 (.move (t 7)),
 o 50 (.move (t 10)),
  ⟨(some 51), .callV (.tmp 49) [(.tmp 50)] [(.cell (.int .i64))] (.int .i64 0), none, [.load 1 47 none]⟩,
 o 52 (.buildSl [(.int .i64 0)] 1 [(0, (t 51))]),
 o 53 (.append [(.int .i64 0)] 1 8 (t 48) (t 52)),
 o 54 (.fieldAddr 1 (t 8)),
 u (.store 1 (t 54) (t 53))]) k7x24
def k7x22 : AC := .mask 7696581394828
def k7x21 : AC := .ops false [
 o 63 (.bin .other .add (t 42) (c 1)),
 o 42 (.move (t 63))]
def k7x18 : AC := .seq (.seq (.block 1 (.seq (.ops false [
 o 44 (.move (t 42)),
 o 45 (.indexAddr 1 (t 40) (t 42)),
 o 46 (.load I (t 45)),
 o 9 (.move (t 44)),
 o 10 (.move (t 46))]) k7x23)) k7x22) k7x21
def k7x17 : AC := .seq (.seq (.cond (.tmp 43)
 (.skip)
 (.seq (.mask 396) k7x20)) k7x19) k7x18
def k7x16 : AC := .seq (.ops false [
 o 43 (.bin .other .lss (t 42) (t 41))]) k7x17
def k7x15 : AC := .mask 396
def k7x14 : AC := .seq (.block 0 (.loop 7696581394828 396 k7x16)) k7x15
def k7x36 : AC := .exit 2
def k7x35 : AC := .mask 258254417031933723020
def k7x48 : AC := .exit 4
def k7x47 : AC := .mask 33314819797119450231180
def k7x56 : AC := .ret
def k7x55 : AC := .seq (.mask 64) k7x56
def k7x54 : AC := .mask 33314819797119450263948
def k7x53 : AC := .seq (.cond (.tmp 80)
 (.seq (.ops false [
 o 6 (.move (.c (.bool true)))]) k7x55)
  (.skip)) k7x54
def k7x57 : AC := .ops false [
 o 96 (.fieldAddr 0 (t 13)),
 o 97 (.load (.cell .sl) (t 96)),
 o 98 (.load (.agg [(.int .i64), (.int .i64), (.int .i64), (.int .i64), (.int .i64), .sl]) (t 15)),
 o 99 (.buildSl [(.int .i64 0), (.int .i64 0), (.int .i64 0), (.int .i64 0), (.int .i64 0), (.sl .nil 0)] 6 [(0, (t 98))]),
 o 100 (.append [(.int .i64 0), (.int .i64 0), (.int .i64 0), (.int .i64 0), (.int .i64 0), (.sl .nil 0)] 6 64 (t 97) (t 99)),
 o 101 (.fieldAddr 0 (t 13)),
 u (.store 1 (t 101) (t 100))]
def k7x52 : AC := .seq (.ops false [
 o 81 (.move (t 7)),
 o 82 (.fieldAddr 1 (t 15)),
 o 83 (.load I (t 82)),
 o 85 (.move (t 7)),
 o 86 (.fieldAddr 2 (t 15)),
 o 87 (.load I (t 86)),
 o 89 (.move (t 7)),
 o 90 (.fieldAddr 3 (t 15)),
 o 91 (.load I (t 90)),
  ⟨(some 84), .callV (.tmp 81) [(.tmp 83)] [(.cell (.int .i64))] (.int .i64 0), none, [.load 1 86 none, .load 1 90 none]⟩,
 o 93 (.fieldAddr 1 (t 15)),
  ⟨(some 88), .callV (.tmp 85) [(.tmp 87)] [(.cell (.int .i64))] (.int .i64 0), none, [.load 1 90 none]⟩,
 o 92 (.callV (t 89) [(t 91)] [I] (.int .i64 0)),
 u (.store 1 (t 93) (t 84)),
 o 94 (.fieldAddr 2 (t 15)),
 u (.store 1 (t 94) (t 88)),
 o 95 (.fieldAddr 3 (t 15)),
 u (.store 1 (t 95) (t 92))]) k7x57
def k7x51 : AC := .seq (.seq (.ops false [
 o 78 (.fieldAddr 0 (t 15)),
 o 79 (.load I (t 78)),
 o 80 (.call 21 [(t 79)] [(.cell .bool)] (.bool false))]) k7x53) k7x52
def k7x50 : AC := .mask 33314819797119450231180
def k7x49 : AC := .ops false [
 o 102 (.bin .other .add (t 74) (c 1)),
 o 74 (.move (t 102))]
def k7x46 : AC := .seq (.seq (.block 5 (.seq (.ops false [
 o 76 (.indexAddr 6 (t 72) (t 74)),
 o 77 (.load (.agg [(.int .i64), (.int .i64), (.int .i64), (.int .i64), (.int .i64), .sl]) (t 76)),
 o 15 (.allocL [(.int .i64 0), (.int .i64 0), (.int .i64 0), (.int .i64 0), (.int .i64 0), (.sl .nil 0)]),
 u (.store 6 (t 15) (t 77))]) k7x51)) k7x50) k7x49
def k7x45 : AC := .seq (.seq (.cond (.tmp 75)
 (.skip)
 (.seq (.mask 258254417031933735308) k7x48)) k7x47) k7x46
def k7x44 : AC := .seq (.ops false [
 o 75 (.bin .other .lss (t 74) (t 73))]) k7x45
def k7x43 : AC := .mask 258254417031933735308
def k7x42 : AC := .seq (.block 4 (.loop 33314819797119450231180 258254417031933735308 k7x44)) k7x43
def k7x59 : AC := .ops false [
 o 120 (.fieldAddr 3 (t 8)),
 o 121 (.load (.cell .sl) (t 120)),
 o 122 (.load (.agg [.sl, (.int .i64), (.int .i64), (.int .i64), (.int .i64), (.int .i64), .sl]) (t 13)),
 o 123 (.buildSl [(.sl .nil 0), (.int .i64 0), (.int .i64 0), (.int .i64 0), (.int .i64 0), (.int .i64 0), (.sl .nil 0)] 7 [(0, (t 122))]),
 o 124 (.append [(.sl .nil 0), (.int .i64 0), (.int .i64 0), (.int .i64 0), (.int .i64 0), (.int .i64 0), (.sl .nil 0)] 7 88 (t 121) (t 123)),
 o 125 (.fieldAddr 3 (t 8)),
 u (.store 1 (t 125) (t 124))]
def k7x58 : AC := .seq (.ops false [
 o 106 (.move (t 7)),
 o 107 (.fieldAddr 1 (t 12)),
 o 108 (.fieldAddr 2 (t 107)),
 o 109 (.load I (t 108)),
 o 111 (.move (t 7)),
 o 112 (.fieldAddr 1 (t 12)),
 o 113 (.fieldAddr 3 (t 112)),
 o 114 (.load I (t 113)),
  ⟨(some 110), .callV (.tmp 106) [(.tmp 109)] [(.cell (.int .i64))] (.int .i64 0), none, [.load 1 113 none]⟩,
 o 116 (.fieldAddr 1 (t 13)),
 o 117 (.fieldAddr 2 (t 116)),
 o 115 (.callV (t 111) [(t 114)] [I] (.int .i64 0)),
 u (.store 1 (t 117) (t 110)),
 o 118 (.fieldAddr 1 (t 13)),
 o 119 (.fieldAddr 3 (t 118)),
 u (.store 1 (t 119) (t 115))]) k7x59
def k7x41 : AC := .seq (.ops false [
 o 103 (.fieldAddr 1 (t 12)),
 o 104 (.load (.agg [(.int .i64), (.int .i64), (.int .i64), (.int .i64), (.int .i64), .sl]) (t 103)),
 o 105 (.fieldAddr 1 (t 13)),
 u (.store 6 (t 105) (t 104))]) k7x58
def k7x40 : AC := .seq (.seq (.ops false [
 o 71 (.fieldAddr 0 (t 12)),
 o 72 (.load (.cell .sl) (t 71)),
 o 73 (.lenSl (t 72)),
 o 74 (.move (c 0))]) k7x42) k7x41
def k7x39 : AC := .seq (.ops false [
 o 13 (.allocL [(.sl .nil 0), (.int .i64 0), (.int .i64 0), (.int .i64 0), (.int .i64 0), (.int .i64 0), (.sl .nil 0)])]) k7x40
def k7x38 : AC := .mask 258254417031933723020
def k7x37 : AC := .ops false [
 o 126 (.bin .other .add (t 67) (c 1)),
 o 67 (.move (t 126))]
def k7x34 : AC := .seq (.seq (.block 3 (.seq (.ops false [
 o 69 (.indexAddr 7 (t 65) (t 67)),
 o 70 (.load (.agg [.sl, (.int .i64), (.int .i64), (.int .i64), (.int .i64), (.int .i64), .sl]) (t 69)),
 o 12 (.allocL [(.sl .nil 0), (.int .i64 0), (.int .i64 0), (.int .i64 0), (.int .i64 0), (.int .i64 0), (.sl .nil 0)]),
 u (.store 7 (t 12) (t 70))]) k7x39)) k7x38) k7x37
def k7x33 : AC := .seq (.seq (.cond (.tmp 68)
 (.skip)
 (.seq (.mask 268) k7x36)) k7x35) k7x34
def k7x32 : AC := .seq (.ops false [
 o 68 (.bin .other .lss (t 67) (t 66))]) k7x33
def k7x31 : AC := .mask 268
def k7x30 : AC := .seq (.block 2 (.loop 258254417031933723020 268 k7x32)) k7x31
def k7x68 : AC := .exit 6
def k7x67 : AC := .mask 2041694201525630780780247644590609334540
def k7x75 : AC := .join 2041694201525630780780247644590609596684
def k7x74 : AC := .seq (.cond (.tmp 136)
 (.ops false [
 o 137 (.move (t 2)),
 o 138 (.move (t 17)),
 o 139 (.indexAddr 1 (t 137) (t 138)),
 o 140 (.load I (t 139)),
 o 141 (.call 22 [(t 140)] [I] (.int .i64 0)),
 o 18 (.move (t 141))])
  (.skip)) k7x75
def k7x73 : AC := .ops false [
 o 142 (.move (t 16)),
 o 143 (.move (t 18)),
 o 144 (.buildSl [(.int .i64 0)] 1 [(0, (t 143))]),
 o 145 (.append [(.int .i64 0)] 1 8 (t 142) (t 144)),
 o 16 (.move (t 145))]
def k7x72 : AC := .seq (.seq (.ops false [
 o 133 (.move (t 17)),
 o 134 (.move (t 2)),
 o 135 (.lenSl (t 134)),
 o 136 (.bin .other .lss (t 133) (t 135))]) k7x74) k7x73
def k7x71 : AC := .seq (.ops false [
 o 18 (.move (c 3))]) k7x72
def k7x70 : AC := .mask 2041694201525630780780247644590609334540
def k7x69 : AC := .ops false [
 o 146 (.bin .other .add (t 130) (c 1)),
 o 130 (.move (t 146))]
def k7x66 : AC := .seq (.seq (.block 7 (.seq (.ops false [
 o 132 (.move (t 130)),
 o 17 (.move (t 132))]) k7x71)) k7x70) k7x69
def k7x65 : AC := .seq (.seq (.cond (.tmp 131)
 (.skip)
 (.seq (.mask 65800) k7x68)) k7x67) k7x66
def k7x64 : AC := .seq (.ops false [
 o 131 (.bin .other .lss (t 130) (t 129))]) k7x65
def k7x63 : AC := .mask 65800
def k7x62 : AC := .seq (.block 6 (.loop 2041694201525630780780247644590609334540 65800 k7x64)) k7x63
def k7x81 : AC := .ret
def k7x80 : AC := .seq (.mask 64) k7x81
def k7x79 : AC := .seq (.ops true [
 o 165 (.move (t 21)),
 o 166 (.move (t 22)),
 o 167 (.bin .other .eql (t 165) (t 166)),
 o 168 (.move (t 167)),
 g 169 168 (.move (t 19)),
 g 170 168 (.nilCheck (t 169)),
 g 171 168 (.fieldAddr 6 (t 170)),
 g 172 168 (.load (.cell .bool) (t 171)),
 g 173 168 (.move (t 20)),
 g 174 168 (.nilCheck (t 173)),
 g 175 168 (.fieldAddr 6 (t 174)),
 g 176 168 (.load (.cell .bool) (t 175)),
 g 177 168 (.bin .bool .eql (t 172) (t 176)),
 o 178 (.pick (t 168) (t 177) (.c (.bool false))),
 o 179 (.move (t 178)),
 g 180 179 (.move (t 19)),
 g 181 179 (.nilCheck (t 180)),
 g 182 179 (.fieldAddr 7 (t 181)),
 g 183 179 (.load (.cell .bool) (t 182)),
 g 184 179 (.move (t 20)),
 g 185 179 (.nilCheck (t 184)),
 g 186 179 (.fieldAddr 7 (t 185)),
 g 187 179 (.load (.cell .bool) (t 186)),
 g 188 179 (.bin .bool .eql (t 183) (t 187)),
 o 189 (.pick (t 179) (t 188) (.c (.bool false))),
 o 190 (.move (t 189)),
 g 191 190 (.move (t 19)),
 g 192 190 (.nilCheck (t 191)),
 g 193 190 (.fieldAddr 5 (t 192)),
 g 194 190 (.load I (t 193)),
 g 195 190 (.move (t 20)),
 g 196 190 (.nilCheck (t 195)),
 g 197 190 (.fieldAddr 5 (t 196)),
 g 198 190 (.load I (t 197)),
 g 199 190 (.bin .other .eql (t 194) (t 198)),
 o 200 (.pick (t 190) (t 199) (.c (.bool false))),
 o 201 (.move (t 200)),
 g 202 201 (.move (t 19)),
 g 203 201 (.nilCheck (t 202)),
 g 204 201 (.fieldAddr 4 (t 203)),
 g 205 201 (.load (.cell .sl) (t 204)),
 g 206 201 (.move (t 20)),
 g 207 201 (.nilCheck (t 206)),
 g 208 201 (.fieldAddr 4 (t 207)),
 g 209 201 (.load (.cell .sl) (t 208)),
 g 210 201 (.call 24 [(t 205), (t 209)] [(.cell .bool)] (.bool false)),
 o 211 (.pick (t 201) (t 210) (.c (.bool false))),
 o 212 (.move (t 211)),
 g 213 212 (.move (t 19)),
 g 214 212 (.nilCheck (t 213)),
 g 215 212 (.fieldAddr 1 (t 214)),
 g 216 212 (.fieldAddr 0 (t 215)),
 g 217 212 (.load (.cell .sl) (t 216)),
 g 218 212 (.move (t 20)),
 g 219 212 (.nilCheck (t 218)),
 g 220 212 (.fieldAddr 1 (t 219)),
 g 221 212 (.fieldAddr 0 (t 220)),
 g 222 212 (.load (.cell .sl) (t 221)),
 g 223 212 (.call 24 [(t 217), (t 222)] [(.cell .bool)] (.bool false)),
 o 224 (.pick (t 212) (t 223) (.c (.bool false))),
 o 6 (.move (t 224))]) k7x80
def k7x78 : AC := .seq (.ops false [
 o 159 (.move (t 19)),
 o 160 (.move (t 16)),
 o 161 (.call 23 [(t 159), (c 0), (t 160)] [I] (.int .i64 0)),
 o 162 (.move (t 20)),
 o 163 (.move (t 16)),
 o 164 (.call 23 [(t 162), (c 0), (t 163)] [I] (.int .i64 0)),
 o 21 (.move (t 161)),
 o 22 (.move (t 164))]) k7x79
def k7x77 : AC := .seq (.ops false [
 o 153 (.load (.agg [(.int .i64), .sl, (.int .i64), .sl]) (t 8)),
 o 154 (.buildSl [(.int .i64 0), (.sl .nil 0), (.int .i64 0), (.sl .nil 0)] 4 [(0, (t 153))]),
 o 155 (.makeSl [(.int .i64 0)] 8 (c 64) (c 64)),
 o 156 (.build [(.sl .nil 0), (.int .i64 0)] [(0, 1, (t 155)), (1, 1, (c 400))]),
 o 157 (.build [(.sl .nil 0), (.sl .nil 0), (.int .i64 0), (.int .i64 0), (.sl .nil 0), (.int .i64 0), (.bool false), (.bool false), (.int .i64 0)] [(0, 1, (t 154)), (1, 2, (t 156)), (3, 1, (c 500))]),
 o 158 (.boxH (t 157)),
 o 20 (.move (t 158))]) k7x78
def k7x61 : AC := .seq (.ops false [
 o 147 (.load (.agg [(.int .i64), .sl, (.int .i64), .sl]) (t 3)),
 o 148 (.buildSl [(.int .i64 0), (.sl .nil 0), (.int .i64 0), (.sl .nil 0)] 4 [(0, (t 147))]),
 o 149 (.makeSl [(.int .i64 0)] 8 (c 64) (c 64)),
 o 150 (.build [(.sl .nil 0), (.int .i64 0)] [(0, 1, (t 149)), (1, 1, (c 400))]),
 o 151 (.build [(.sl .nil 0), (.sl .nil 0), (.int .i64 0), (.int .i64 0), (.sl .nil 0), (.int .i64 0), (.bool false), (.bool false), (.int .i64 0)] [(0, 1, (t 148)), (1, 2, (t 150)), (3, 1, (c 500))]),
 o 152 (.boxH (t 151)),
 o 19 (.move (t 152))]) k7x77
def k7x60 : AC := .seq (.seq (.ops false [
 o 127 (.fieldAddr 1 (t 3)),
 o 128 (.load (.cell .sl) (t 127)),
 o 129 (.lenSl (t 128)),
 o 130 (.move (c 0))]) k7x62) k7x61
def k7x29 : AC := .seq (.ops false [
 o 16 (.move (.c (.sl .nil 0)))]) k7x60
def k7x13 : AC := .seq (.seq (.ops false [
 o 64 (.fieldAddr 3 (t 3)),
 o 65 (.load (.cell .sl) (t 64)),
 o 66 (.lenSl (t 65)),
 o 67 (.move (c 0))]) k7x30) k7x29
def k7x12 : AC := .seq (.seq (.ops false [
 o 39 (.fieldAddr 1 (t 3)),
 o 40 (.load (.cell .sl) (t 39)),
 o 41 (.lenSl (t 40)),
 o 42 (.move (c 0))]) k7x14) k7x13
def k7x11 : AC := .seq (.ops false [
 o 35 (.fieldAddr 2 (t 4)),
 o 36 (.load I (t 35)),
 o 37 (.bin .other .add (c 12) (t 36)),
 o 38 (.build [(.int .i64 0), (.sl .nil 0), (.int .i64 0), (.sl .nil 0)] [(2, 1, (t 37))]),
 o 8 (.allocL [(.int .i64 0), (.sl .nil 0), (.int .i64 0), (.sl .nil 0)]),
 u (.store 4 (t 8) (t 38))]) k7x12
def k7x6 : AC := .seq (.ops false [
 o 34 (.makeFn 19 [] [(t 4)]),
 o 7 (.move (t 34))]) k7x11
def k7x1 : AC := .seq (.seq (.ops true [
 o 25 (.load (.agg [(.int .i64), .sl, (.int .i64), .sl]) (t 3)),
 o 26 (.call 10 [(t 25)] [(.cell .bool)] (.bool false)),
 o 27 (.un .not (t 26)),
 o 28 (.move (t 27)),
 f 29 28 (.load (.agg [(.int .i64), .sl, (.int .i64), .sl]) (t 3)),
 f 30 28 (.load (.agg [.sl, .sl, (.int .i64)]) (t 4)),
 f 31 28 (.call 16 [(t 29), (t 30)] [I] (.int .i64 0)),
 f 32 28 (.bin .other .neq (t 31) (c 0)),
 o 33 (.pick (t 28) (.c (.bool true)) (t 32))]) k7x7) k7x6
def k7x0 : AC := .seq (.seq (.ops false [
 o 23 (.call 8 [] [(.cell .bool)] (.bool false)),
 o 24 (.un .not (t 23))]) k7x2) k7x1
def c7 : AFn := ⟨225, [.tmp 6],
 .seq (.ops false [
 o 3 (.boxL (t 0)),
 o 4 (.boxH (t 1)),
 o 6 (.move (.c (.bool false)))]) k7x0⟩
def S7xr (b6 : Bool) (h : Heap) : St := ⟨(rep 6 (vb b6 :: (rep 218 []))), h⟩
def S7xe0 (s2 : SA) (n2 : Nat) (i3x0 : Int) (s3x1 : SA) (n3x1 : Nat) (i3x2 : Int) (s3x3 : SA) (n3x3 : Nat) (p7c0 : Option Ad) (i8x0 : Int) (s8x1 : SA) (n8x1 : Nat) (i8x2 : Int) (s8x3 : SA) (n8x3 : Nat) (h : Heap) : St := ⟨(.any :: .any :: (vl s2 n2 :: (.box [(.int .i64 i3x0), (.sl s3x1 n3x1), (.int .i64 i3x2), (.sl s3x3 n3x3)] :: (rep 3 (.g [] true (.fn 19 [] [(.ptr p7c0)]) :: (.box [(.int .i64 i8x0), (.sl s8x1 n8x1), (.int .i64 i8x2), (.sl s8x3 n8x3)] :: (rep 216 []))))))), h⟩
def S7xe2 (s2 : SA) (n2 : Nat) (i3x0 : Int) (s3x1 : SA) (n3x1 : Nat) (i3x2 : Int) (s3x3 : SA) (n3x3 : Nat) (i8x0 : Int) (s8x1 : SA) (n8x1 : Nat) (i8x2 : Int) (s8x3 : SA) (n8x3 : Nat) (h : Heap) : St := ⟨(.any :: .any :: (vl s2 n2 :: (.box [(.int .i64 i3x0), (.sl s3x1 n3x1), (.int .i64 i3x2), (.sl s3x3 n3x3)] :: (rep 4 (.box [(.int .i64 i8x0), (.sl s8x1 n8x1), (.int .i64 i8x2), (.sl s8x3 n8x3)] :: (rep 216 [])))))), h⟩
def S7xe4 (s2 : SA) (n2 : Nat) (i3x0 : Int) (s3x1 : SA) (n3x1 : Nat) (i3x2 : Int) (s3x3 : SA) (n3x3 : Nat) (p7c0 : Option Ad) (i8x0 : Int) (s8x1 : SA) (n8x1 : Nat) (i8x2 : Int) (s8x3 : SA) (n8x3 : Nat) (s12x0 : SA) (n12x0 : Nat) (i12x1 i12x2 : Int) (i12x3 i12x4 i12x5 : Int) (s12x6 : SA) (n12x6 : Nat) (s13x0 : SA) (n13x0 : Nat) (i13x1 i13x2 : Int) (i13x3 i13x4 i13x5 : Int) (s13x6 : SA) (n13x6 : Nat) (s65 : SA) (n65 : Nat) (i66 i67 : Int) (h : Heap) : St := ⟨(.any :: .any :: (vl s2 n2 :: (.box [(.int .i64 i3x0), (.sl s3x1 n3x1), (.int .i64 i3x2), (.sl s3x3 n3x3)] :: (rep 3 (.g [] true (.fn 19 [] [(.ptr p7c0)]) :: (.box [(.int .i64 i8x0), (.sl s8x1 n8x1), (.int .i64 i8x2), (.sl s8x3 n8x3)] :: (rep 3 (.box [(.sl s12x0 n12x0), (.int .i64 i12x1), (.int .i64 i12x2), (.int .i64 i12x3), (.int .i64 i12x4), (.int .i64 i12x5), (.sl s12x6 n12x6)] :: (.box [(.sl s13x0 n13x0), (.int .i64 i13x1), (.int .i64 i13x2), (.int .i64 i13x3), (.int .i64 i13x4), (.int .i64 i13x5), (.sl s13x6 n13x6)] :: (rep 51 (vl s65 n65 :: (vi i66 :: (vi i67 :: (rep 157 [])))))))))))))), h⟩
def S7xe6 (i3x0 : Int) (s3x1 : SA) (n3x1 : Nat) (i3x2 : Int) (s3x3 : SA) (n3x3 : Nat) (i8x0 : Int) (s8x1 : SA) (n8x1 : Nat) (i8x2 : Int) (s8x3 : SA) (n8x3 : Nat) (s16 : SA) (n16 : Nat) (h : Heap) : St := ⟨(rep 3 (.box [(.int .i64 i3x0), (.sl s3x1 n3x1), (.int .i64 i3x2), (.sl s3x3 n3x3)] :: (rep 4 (.box [(.int .i64 i8x0), (.sl s8x1 n8x1), (.int .i64 i8x2), (.sl s8x3 n8x3)] :: (rep 7 (vl s16 n16 :: (rep 208 []))))))), h⟩
noncomputable def Q7x16 (M : Mk) (C : Cal) : Kont (AV × Heap) := (blockQ 0 (seqQ (evalE M C k7x15) (seqQ (evalE M C k7x13) (endQ [.tmp 6]))))
noncomputable def L7x16 (s2 : SA) (n2 : Nat) (i3x0 : Int) (s3x1 : SA) (n3x1 : Nat) (i3x2 : Int) (s3x3 : SA) (n3x3 : Nat) (p7c0 : Option Ad) (i8x0 : Int) (s8x1 : SA) (n8x1 : Nat) (i8x2 : Int) (s8x3 : SA) (n8x3 : Nat) (s40 : SA) (n40 : Nat) (i41 i42 : Int) (h : Heap) (Q : Kont R) : Option R := loopE (evalE M C k7x16) 7696581394828 396 ⟨(.any :: .any :: (vl s2 n2 :: (.box [(.int .i64 i3x0), (.sl s3x1 n3x1), (.int .i64 i3x2), (.sl s3x3 n3x3)] :: (rep 3 (.g [] true (.fn 19 [] [(.ptr p7c0)]) :: (.box [(.int .i64 i8x0), (.sl s8x1 n8x1), (.int .i64 i8x2), (.sl s8x3 n8x3)] :: (rep 31 (vl s40 n40 :: (vi i41 :: (vi i42 :: (rep 182 []))))))))))), h⟩ Q
noncomputable def Q7x32 (M : Mk) (C : Cal) : Kont (AV × Heap) := (blockQ 2 (seqQ (evalE M C k7x31) (seqQ (evalE M C k7x29) (endQ [.tmp 6]))))
noncomputable def L7x32 (s2 : SA) (n2 : Nat) (i3x0 : Int) (s3x1 : SA) (n3x1 : Nat) (i3x2 : Int) (s3x3 : SA) (n3x3 : Nat) (p7c0 : Option Ad) (i8x0 : Int) (s8x1 : SA) (n8x1 : Nat) (i8x2 : Int) (s8x3 : SA) (n8x3 : Nat) (s65 : SA) (n65 : Nat) (i66 i67 : Int) (h : Heap) (Q : Kont R) : Option R := loopE (evalE M C k7x32) 258254417031933723020 268 ⟨(.any :: .any :: (vl s2 n2 :: (.box [(.int .i64 i3x0), (.sl s3x1 n3x1), (.int .i64 i3x2), (.sl s3x3 n3x3)] :: (rep 3 (.g [] true (.fn 19 [] [(.ptr p7c0)]) :: (.box [(.int .i64 i8x0), (.sl s8x1 n8x1), (.int .i64 i8x2), (.sl s8x3 n8x3)] :: (rep 56 (vl s65 n65 :: (vi i66 :: (vi i67 :: (rep 157 []))))))))))), h⟩ Q
noncomputable def Q7x44 (M : Mk) (C : Cal) (Q : Kont R) : Kont R := (blockQ 4 (seqQ (evalE M C k7x43) (seqQ (evalE M C k7x41) (blockQ 3 (seqQ (evalE M C k7x38) (seqQ (evalE M C k7x37) (roundQ M C k7x32 258254417031933723020 268 Q)))))))
noncomputable def L7x44 (s2 : SA) (n2 : Nat) (i3x0 : Int) (s3x1 : SA) (n3x1 : Nat) (i3x2 : Int) (s3x3 : SA) (n3x3 : Nat) (p7c0 : Option Ad) (i8x0 : Int) (s8x1 : SA) (n8x1 : Nat) (i8x2 : Int) (s8x3 : SA) (n8x3 : Nat) (s12x0 : SA) (n12x0 : Nat) (i12x1 i12x2 : Int) (i12x3 i12x4 i12x5 : Int) (s12x6 : SA) (n12x6 : Nat) (s13x0 : SA) (n13x0 : Nat) (i13x1 i13x2 : Int) (i13x3 i13x4 i13x5 : Int) (s13x6 : SA) (n13x6 : Nat) (s65 : SA) (n65 : Nat) (i66 i67 : Int) (s72 : SA) (n72 : Nat) (i73 i74 : Int) (h : Heap) (Q : Kont R) : Option R := loopE (evalE M C k7x44) 33314819797119450231180 258254417031933735308 ⟨(.any :: .any :: (vl s2 n2 :: (.box [(.int .i64 i3x0), (.sl s3x1 n3x1), (.int .i64 i3x2), (.sl s3x3 n3x3)] :: (rep 3 (.g [] true (.fn 19 [] [(.ptr p7c0)]) :: (.box [(.int .i64 i8x0), (.sl s8x1 n8x1), (.int .i64 i8x2), (.sl s8x3 n8x3)] :: (rep 3 (.box [(.sl s12x0 n12x0), (.int .i64 i12x1), (.int .i64 i12x2), (.int .i64 i12x3), (.int .i64 i12x4), (.int .i64 i12x5), (.sl s12x6 n12x6)] :: (.box [(.sl s13x0 n13x0), (.int .i64 i13x1), (.int .i64 i13x2), (.int .i64 i13x3), (.int .i64 i13x4), (.int .i64 i13x5), (.sl s13x6 n13x6)] :: (rep 51 (vl s65 n65 :: (vi i66 :: (vi i67 :: (rep 4 (vl s72 n72 :: (vi i73 :: (vi i74 :: (rep 150 [])))))))))))))))))), h⟩ Q
noncomputable def Q7x64 (M : Mk) (C : Cal) : Kont (AV × Heap) := (blockQ 6 (seqQ (evalE M C k7x63) (seqQ (evalE M C k7x61) (endQ [.tmp 6]))))
noncomputable def L7x64 (s2 : SA) (n2 : Nat) (i3x0 : Int) (s3x1 : SA) (n3x1 : Nat) (i3x2 : Int) (s3x3 : SA) (n3x3 : Nat) (i8x0 : Int) (s8x1 : SA) (n8x1 : Nat) (i8x2 : Int) (s8x3 : SA) (n8x3 : Nat) (s16 : SA) (n16 : Nat) (i129 i130 : Int) (h : Heap) (Q : Kont R) : Option R := loopE (evalE M C k7x64) 2041694201525630780780247644590609334540 65800 ⟨(.any :: .any :: (vl s2 n2 :: (.box [(.int .i64 i3x0), (.sl s3x1 n3x1), (.int .i64 i3x2), (.sl s3x3 n3x3)] :: (rep 4 (.box [(.int .i64 i8x0), (.sl s8x1 n8x1), (.int .i64 i8x2), (.sl s8x3 n8x3)] :: (rep 7 (vl s16 n16 :: (rep 112 (vi i129 :: (vi i130 :: (rep 94 []))))))))))), h⟩ Q
noncomputable def J7x76 (M : Mk) (C : Cal) (s2 : SA) (n2 : Nat) (i3x0 : Int) (s3x1 : SA) (n3x1 : Nat) (i3x2 : Int) (s3x3 : SA) (n3x3 : Nat) (i8x0 : Int) (s8x1 : SA) (n8x1 : Nat) (i8x2 : Int) (s8x3 : SA) (n8x3 : Nat) (s16 : SA) (n16 : Nat) (i18 i129 i130 : Int) (h : Heap) (Q : Kont R) : Option R := M R (seqQ (evalE M C k7x73) (blockQ 7 (seqQ (evalE M C k7x70) (seqQ (evalE M C k7x69) (roundQ M C k7x64 2041694201525630780780247644590609334540 65800 Q))))) (.any :: .any :: (vl s2 n2 :: (.box [(.int .i64 i3x0), (.sl s3x1 n3x1), (.int .i64 i3x2), (.sl s3x3 n3x3)] :: (rep 4 (.box [(.int .i64 i8x0), (.sl s8x1 n8x1), (.int .i64 i8x2), (.sl s8x3 n8x3)] :: (rep 7 (vl s16 n16 :: (.any :: (vi i18 :: (rep 110 (vi i129 :: (vi i130 :: (rep 94 []))))))))))))) h
theorem r7 (i0x0 : Int) (s0x1 : SA) (n0x1 : Nat) (i0x2 : Int) (s0x3 : SA) (n0x3 : Nat) (s1x0 : SA) (n1x0 : Nat) (s1x1 : SA) (n1x1 : Nat) (i1x2 : Int) (s2 : SA) (n2 : Nat) (h : Heap) : runE M C c7 [(.agg [(.int .i64 i0x0), (.sl s0x1 n0x1), (.int .i64 i0x2), (.sl s0x3 n0x3)]), (.agg [(.sl s1x0 n1x0), (.sl s1x1 n1x1), (.int .i64 i1x2)]), (.sl s2 n2)] h = (
 newK h (.cells [(.sl s1x0 n1x0), (.sl s1x1 n1x1), (.int .i64 i1x2)] .fix 0) fun h_2 =>
 (C 8 [] h_2).bind fun r23 =>
 gB (some r23.1) true fun b23 =>
 if (!b23) = true then
  (
  some ((.bool false), r23.2)
  )
 else
  (
  (C 10 [(.agg [(.int .i64 i0x0), (.sl s0x1 n0x1), (.int .i64 i0x2), (.sl s0x3 n0x3)])] r23.2).bind fun r26 =>
  gB (some r26.1) true fun b26 =>
  chk ((!(!b26)) = true → 0 + 4 ≤ 4) <|
  gI .i64 (some (.int .i64 i0x0)) (!(!b26)) fun i29x0 =>
  gL (some (.sl s0x1 n0x1)) (!(!b26)) fun s29x1 n29x1 =>
  gI .i64 (some (.int .i64 i0x2)) (!(!b26)) fun i29x2 =>
  gL (some (.sl s0x3 n0x3)) (!(!b26)) fun s29x3 n29x3 =>
  atP (some ⟨List.length h, 0, 0⟩) (!(!b26)) fun a30 =>
  gCells (ldN r26.2 a30 3) (!(!b26)) fun l30 =>
  gL (l30[0]?) (!(!b26)) fun s30x0 n30x0 =>
  gL (l30[1]?) (!(!b26)) fun s30x1 n30x1 =>
  gI .i64 (l30[2]?) (!(!b26)) fun i30x2 =>
  (callO (!(!b26)) (C 16 [(.agg [(.int .i64 i29x0), (.sl s29x1 n29x1), (.int .i64 i29x2), (.sl s29x3 n29x3)]), (.agg [(.sl s30x0 n30x0), (.sl s30x1 n30x1), (.int .i64 i30x2)])] r26.2) (.int .i64 0) r26.2).bind fun r31 =>
  gI .i64 (some r31.1) (!(!b26)) fun i31 =>
  letK (!decide (i31 = 0)) fun b32 =>
  letK (if (!b26) = true then true else b32) fun b33 =>
  if b33 = true then
   (
   some ((.bool true), r31.2)
   )
  else
   (
   gI .i64 (ld1 r31.2 (Ad.add ⟨List.length h, 0, 0⟩ 2)) true fun i36 =>
   letK (IntKind.wrap .i64 (12 + i36)) fun i37 =>
   L7x16 M C s2 n2 i0x0 s0x1 n0x1 i0x2 s0x3 n0x3 (some ⟨List.length h, 0, 0⟩) 0 .nil 0 i37 .nil 0 s0x1 n0x1 (n0x1 : Int) 0 r31.2 (Q7x16 M C)
   )
  )
 ) := by kernel_rfl
theorem cf7 : cFn Try.prog 7 = some c7 := by kernel_rfl
theorem e7 (i0x0 : Int) (s0x1 : SA) (n0x1 : Nat) (i0x2 : Int) (s0x3 : SA) (n0x3 : Nat) (s1x0 : SA) (n1x0 : Nat) (s1x1 : SA) (n1x1 : Nat) (i1x2 : Int) (s2 : SA) (n2 : Nat) (h : Heap) : TEq (E 7 [(.agg [(.int .i64 i0x0), (.sl s0x1 n0x1), (.int .i64 i0x2), (.sl s0x3 n0x3)]), (.agg [(.sl s1x0 n1x0), (.sl s1x1 n1x1), (.int .i64 i1x2)]), (.sl s2 n2)] h) (r7 mk0 E i0x0 s0x1 n0x1 i0x2 s0x3 n0x3 s1x0 n1x0 s1x1 n1x1 i1x2 s2 n2 h) := (EV_eq (P := Try.prog) (T := T0) rfl cf7 _ h).trans (r7 mk0 E i0x0 s0x1 n0x1 i0x2 s0x3 n0x3 s1x0 n1x0 s1x1 n1x1 i1x2 s2 n2 h)
theorem L7x16xaux (s2 : SA) (n2 : Nat) (i3x0 : Int) (s3x1 : SA) (n3x1 : Nat) (i3x2 : Int) (s3x3 : SA) (n3x3 : Nat) (p7c0 : Option Ad) (i8x0 : Int) (s8x1 : SA) (n8x1 : Nat) (i8x2 : Int) (s8x3 : SA) (n8x3 : Nat) (s40 : SA) (n40 : Nat) (i41 i42 : Int) (h : Heap) (Q : Kont R) : (restrF 7696581394828 ⟨(.any :: .any :: (vl s2 n2 :: (.box [(.int .i64 i3x0), (.sl s3x1 n3x1), (.int .i64 i3x2), (.sl s3x3 n3x3)] :: (rep 3 (.g [] true (.fn 19 [] [(.ptr p7c0)]) :: (.box [(.int .i64 i8x0), (.sl s8x1 n8x1), (.int .i64 i8x2), (.sl s8x3 n8x3)] :: (rep 31 (vl s40 n40 :: (vi i41 :: (vi i42 :: (rep 182 []))))))))))), h⟩ fun σ => evalE M C k7x16 σ (roundQ M C k7x16 7696581394828 396 Q)) = (
 letK (decide (i42 < i41)) fun b43 =>
 if b43 = true then
  (
  chk (true = true → 0 ≤ i42 ∧ i42 < (n40 : Int)) <|
  atP (adP s40) true fun a45 =>
  gI .i64 (ld1 h (Ad.add a45 (Int.toNat i42 * 1))) true fun i46 =>
  (C 19 [(.int .i64 i46), (.ptr p7c0)] h).bind fun r51 =>
  gI .i64 (some r51.1) true fun i51 =>
  newK r51.2 (.cells [(.int .i64 i51)] (.grow 1) 0) fun h_2 =>
  (ldSl h_2 (.pos ⟨List.length r51.2, 0, 0⟩) (1 * 1)).bind fun y53 =>
  (apnd h_2 (.sl s8x1 n8x1) 1 8 y53 1).bind fun r53 =>
  gL (some r53.1) true fun s53 n53 =>
  chkC (true = true → 0 ≤ i42 ∧ hiOk r53.2 s53 n53 1 i42) <|
  letK (Int.toNat i42) fun n58 =>
  (C 19 [(.int .i64 i46), (.ptr p7c0)] r53.2).bind fun r61 =>
  gI .i64 (some r61.1) true fun i61 =>
  posC s53 (fun a => true = true → r61.2[Ad.b a]? = r53.2[Ad.b a]?) <|
  (C 20 [(.sl s53 n58), (.int .i64 i61)] r61.2).bind fun r62 =>
  gB (some r62.1) true fun b62 =>
  if b62 = true then
   (
   Q .ret (S7xr true r62.2)
   )
  else
   (
   letK (IntKind.wrap .i64 (i42 + 1)) fun i63 =>
   L7x16 M C s2 n2 i3x0 s3x1 n3x1 i3x2 s3x3 n3x3 p7c0 i8x0 s53 n53 i8x2 s8x3 n8x3 s40 n40 i41 i63 r62.2 Q
   )
  )
 else
  (
  Q (.exit 0) (S7xe0 s2 n2 i3x0 s3x1 n3x1 i3x2 s3x3 n3x3 p7c0 i8x0 s8x1 n8x1 i8x2 s8x3 n8x3 h)
  )
 ) := by kernel_rfl
theorem L7x16xeq (s2 : SA) (n2 : Nat) (i3x0 : Int) (s3x1 : SA) (n3x1 : Nat) (i3x2 : Int) (s3x3 : SA) (n3x3 : Nat) (p7c0 : Option Ad) (i8x0 : Int) (s8x1 : SA) (n8x1 : Nat) (i8x2 : Int) (s8x3 : SA) (n8x3 : Nat) (s40 : SA) (n40 : Nat) (i41 i42 : Int) (h : Heap) (Q : Kont R) : TEq (L7x16 mk0 C s2 n2 i3x0 s3x1 n3x1 i3x2 s3x3 n3x3 p7c0 i8x0 s8x1 n8x1 i8x2 s8x3 n8x3 s40 n40 i41 i42 h Q) (L7x16xaux mk0 C s2 n2 i3x0 s3x1 n3x1 i3x2 s3x3 n3x3 p7c0 i8x0 s8x1 n8x1 i8x2 s8x3 n8x3 s40 n40 i41 i42 h Q) := loop_eqn _ _ _ _ _ h Q (by kernel_rfl) (L7x16xaux mk0 C s2 n2 i3x0 s3x1 n3x1 i3x2 s3x3 n3x3 p7c0 i8x0 s8x1 n8x1 i8x2 s8x3 n8x3 s40 n40 i41 i42 h Q)
theorem X7x16xr (b6 : Bool) (h : Heap) : Q7x16 M C .ret (S7xr b6 h) = (
 some ((.bool b6), h)
 ) := by kernel_rfl
theorem X7x16xe0 (s2 : SA) (n2 : Nat) (i3x0 : Int) (s3x1 : SA) (n3x1 : Nat) (i3x2 : Int) (s3x3 : SA) (n3x3 : Nat) (p7c0 : Option Ad) (i8x0 : Int) (s8x1 : SA) (n8x1 : Nat) (i8x2 : Int) (s8x3 : SA) (n8x3 : Nat) (h : Heap) : Q7x16 M C (.exit 0) (S7xe0 s2 n2 i3x0 s3x1 n3x1 i3x2 s3x3 n3x3 p7c0 i8x0 s8x1 n8x1 i8x2 s8x3 n8x3 h) = (
 L7x32 M C s2 n2 i3x0 s3x1 n3x1 i3x2 s3x3 n3x3 p7c0 i8x0 s8x1 n8x1 i8x2 s8x3 n8x3 s3x3 n3x3 (n3x3 : Int) 0 h (Q7x32 M C)
 ) := by kernel_rfl
theorem L7x32xaux (s2 : SA) (n2 : Nat) (i3x0 : Int) (s3x1 : SA) (n3x1 : Nat) (i3x2 : Int) (s3x3 : SA) (n3x3 : Nat) (p7c0 : Option Ad) (i8x0 : Int) (s8x1 : SA) (n8x1 : Nat) (i8x2 : Int) (s8x3 : SA) (n8x3 : Nat) (s65 : SA) (n65 : Nat) (i66 i67 : Int) (h : Heap) (Q : Kont R) : (restrF 258254417031933723020 ⟨(.any :: .any :: (vl s2 n2 :: (.box [(.int .i64 i3x0), (.sl s3x1 n3x1), (.int .i64 i3x2), (.sl s3x3 n3x3)] :: (rep 3 (.g [] true (.fn 19 [] [(.ptr p7c0)]) :: (.box [(.int .i64 i8x0), (.sl s8x1 n8x1), (.int .i64 i8x2), (.sl s8x3 n8x3)] :: (rep 56 (vl s65 n65 :: (vi i66 :: (vi i67 :: (rep 157 []))))))))))), h⟩ fun σ => evalE M C k7x32 σ (roundQ M C k7x32 258254417031933723020 268 Q)) = (
 letK (decide (i67 < i66)) fun b68 =>
 if b68 = true then
  (
  chk (true = true → 0 ≤ i67 ∧ i67 < (n65 : Int)) <|
  atP (adP s65) true fun a69 =>
  gCells (ldN h (Ad.add a69 (Int.toNat i67 * 7)) 7) true fun l70 =>
  gL (l70[0]?) true fun s70x0 n70x0 =>
  gI .i64 (l70[1]?) true fun i70x1 =>
  gI .i64 (l70[2]?) true fun i70x2 =>
  gI .i64 (l70[3]?) true fun i70x3 =>
  gI .i64 (l70[4]?) true fun i70x4 =>
  gI .i64 (l70[5]?) true fun i70x5 =>
  gL (l70[6]?) true fun s70x6 n70x6 =>
  L7x44 M C s2 n2 i3x0 s3x1 n3x1 i3x2 s3x3 n3x3 p7c0 i8x0 s8x1 n8x1 i8x2 s8x3 n8x3 s70x0 n70x0 i70x1 i70x2 i70x3 i70x4 i70x5 s70x6 n70x6 .nil 0 0 0 0 0 0 .nil 0 s65 n65 i66 i67 s70x0 n70x0 (n70x0 : Int) 0 h (Q7x44 M C Q)
  )
 else
  (
  Q (.exit 2) (S7xe2 s2 n2 i3x0 s3x1 n3x1 i3x2 s3x3 n3x3 i8x0 s8x1 n8x1 i8x2 s8x3 n8x3 h)
  )
 ) := by kernel_rfl
theorem L7x32xeq (s2 : SA) (n2 : Nat) (i3x0 : Int) (s3x1 : SA) (n3x1 : Nat) (i3x2 : Int) (s3x3 : SA) (n3x3 : Nat) (p7c0 : Option Ad) (i8x0 : Int) (s8x1 : SA) (n8x1 : Nat) (i8x2 : Int) (s8x3 : SA) (n8x3 : Nat) (s65 : SA) (n65 : Nat) (i66 i67 : Int) (h : Heap) (Q : Kont R) : TEq (L7x32 mk0 C s2 n2 i3x0 s3x1 n3x1 i3x2 s3x3 n3x3 p7c0 i8x0 s8x1 n8x1 i8x2 s8x3 n8x3 s65 n65 i66 i67 h Q) (L7x32xaux mk0 C s2 n2 i3x0 s3x1 n3x1 i3x2 s3x3 n3x3 p7c0 i8x0 s8x1 n8x1 i8x2 s8x3 n8x3 s65 n65 i66 i67 h Q) := loop_eqn _ _ _ _ _ h Q (by kernel_rfl) (L7x32xaux mk0 C s2 n2 i3x0 s3x1 n3x1 i3x2 s3x3 n3x3 p7c0 i8x0 s8x1 n8x1 i8x2 s8x3 n8x3 s65 n65 i66 i67 h Q)
theorem L7x44xaux (s2 : SA) (n2 : Nat) (i3x0 : Int) (s3x1 : SA) (n3x1 : Nat) (i3x2 : Int) (s3x3 : SA) (n3x3 : Nat) (p7c0 : Option Ad) (i8x0 : Int) (s8x1 : SA) (n8x1 : Nat) (i8x2 : Int) (s8x3 : SA) (n8x3 : Nat) (s12x0 : SA) (n12x0 : Nat) (i12x1 i12x2 : Int) (i12x3 i12x4 i12x5 : Int) (s12x6 : SA) (n12x6 : Nat) (s13x0 : SA) (n13x0 : Nat) (i13x1 i13x2 : Int) (i13x3 i13x4 i13x5 : Int) (s13x6 : SA) (n13x6 : Nat) (s65 : SA) (n65 : Nat) (i66 i67 : Int) (s72 : SA) (n72 : Nat) (i73 i74 : Int) (h : Heap) (Q : Kont R) : (restrF 33314819797119450231180 ⟨(.any :: .any :: (vl s2 n2 :: (.box [(.int .i64 i3x0), (.sl s3x1 n3x1), (.int .i64 i3x2), (.sl s3x3 n3x3)] :: (rep 3 (.g [] true (.fn 19 [] [(.ptr p7c0)]) :: (.box [(.int .i64 i8x0), (.sl s8x1 n8x1), (.int .i64 i8x2), (.sl s8x3 n8x3)] :: (rep 3 (.box [(.sl s12x0 n12x0), (.int .i64 i12x1), (.int .i64 i12x2), (.int .i64 i12x3), (.int .i64 i12x4), (.int .i64 i12x5), (.sl s12x6 n12x6)] :: (.box [(.sl s13x0 n13x0), (.int .i64 i13x1), (.int .i64 i13x2), (.int .i64 i13x3), (.int .i64 i13x4), (.int .i64 i13x5), (.sl s13x6 n13x6)] :: (rep 51 (vl s65 n65 :: (vi i66 :: (vi i67 :: (rep 4 (vl s72 n72 :: (vi i73 :: (vi i74 :: (rep 150 [])))))))))))))))))), h⟩ fun σ => evalE M C k7x44 σ (roundQ M C k7x44 33314819797119450231180 258254417031933735308 Q)) = (
 letK (decide (i74 < i73)) fun b75 =>
 if b75 = true then
  (
  chk (true = true → 0 ≤ i74 ∧ i74 < (n72 : Int)) <|
  atP (adP s72) true fun a76 =>
  gCells (ldN h (Ad.add a76 (Int.toNat i74 * 6)) 6) true fun l77 =>
  gI .i64 (l77[0]?) true fun i77x0 =>
  gI .i64 (l77[1]?) true fun i77x1 =>
  gI .i64 (l77[2]?) true fun i77x2 =>
  gI .i64 (l77[3]?) true fun i77x3 =>
  gI .i64 (l77[4]?) true fun i77x4 =>
  gL (l77[5]?) true fun s77x5 n77x5 =>
  (C 21 [(.int .i64 i77x0)] h).bind fun r80 =>
  gB (some r80.1) true fun b80 =>
  if b80 = true then
   (
   Q .ret (S7xr true r80.2)
   )
  else
   (
   (C 19 [(.int .i64 i77x1), (.ptr p7c0)] r80.2).bind fun r84 =>
   gI .i64 (some r84.1) true fun i84 =>
   (C 19 [(.int .i64 i77x2), (.ptr p7c0)] r84.2).bind fun r88 =>
   gI .i64 (some r88.1) true fun i88 =>
   (C 19 [(.int .i64 i77x3), (.ptr p7c0)] r88.2).bind fun r92 =>
   gI .i64 (some r92.1) true fun i92 =>
   newK r92.2 (.cells [(.int .i64 i77x0), (.int .i64 i84), (.int .i64 i88), (.int .i64 i92), (.int .i64 i77x4), (.sl s77x5 n77x5)] (.grow 6) 0) fun h_2 =>
   (ldSl h_2 (.pos ⟨List.length r92.2, 0, 0⟩) (1 * 6)).bind fun y100 =>
   (apnd h_2 (.sl s13x0 n13x0) 6 64 y100 1).bind fun r100 =>
   gL (some r100.1) true fun s100 n100 =>
   letK (IntKind.wrap .i64 (i74 + 1)) fun i102 =>
   L7x44 M C s2 n2 i3x0 s3x1 n3x1 i3x2 s3x3 n3x3 p7c0 i8x0 s8x1 n8x1 i8x2 s8x3 n8x3 s12x0 n12x0 i12x1 i12x2 i12x3 i12x4 i12x5 s12x6 n12x6 s100 n100 i13x1 i13x2 i13x3 i13x4 i13x5 s13x6 n13x6 s65 n65 i66 i67 s72 n72 i73 i102 r100.2 Q
   )
  )
 else
  (
  Q (.exit 4) (S7xe4 s2 n2 i3x0 s3x1 n3x1 i3x2 s3x3 n3x3 p7c0 i8x0 s8x1 n8x1 i8x2 s8x3 n8x3 s12x0 n12x0 i12x1 i12x2 i12x3 i12x4 i12x5 s12x6 n12x6 s13x0 n13x0 i13x1 i13x2 i13x3 i13x4 i13x5 s13x6 n13x6 s65 n65 i66 i67 h)
  )
 ) := by kernel_rfl
theorem L7x44xeq (s2 : SA) (n2 : Nat) (i3x0 : Int) (s3x1 : SA) (n3x1 : Nat) (i3x2 : Int) (s3x3 : SA) (n3x3 : Nat) (p7c0 : Option Ad) (i8x0 : Int) (s8x1 : SA) (n8x1 : Nat) (i8x2 : Int) (s8x3 : SA) (n8x3 : Nat) (s12x0 : SA) (n12x0 : Nat) (i12x1 i12x2 : Int) (i12x3 i12x4 i12x5 : Int) (s12x6 : SA) (n12x6 : Nat) (s13x0 : SA) (n13x0 : Nat) (i13x1 i13x2 : Int) (i13x3 i13x4 i13x5 : Int) (s13x6 : SA) (n13x6 : Nat) (s65 : SA) (n65 : Nat) (i66 i67 : Int) (s72 : SA) (n72 : Nat) (i73 i74 : Int) (h : Heap) (Q : Kont R) : TEq (L7x44 mk0 C s2 n2 i3x0 s3x1 n3x1 i3x2 s3x3 n3x3 p7c0 i8x0 s8x1 n8x1 i8x2 s8x3 n8x3 s12x0 n12x0 i12x1 i12x2 i12x3 i12x4 i12x5 s12x6 n12x6 s13x0 n13x0 i13x1 i13x2 i13x3 i13x4 i13x5 s13x6 n13x6 s65 n65 i66 i67 s72 n72 i73 i74 h Q) (L7x44xaux mk0 C s2 n2 i3x0 s3x1 n3x1 i3x2 s3x3 n3x3 p7c0 i8x0 s8x1 n8x1 i8x2 s8x3 n8x3 s12x0 n12x0 i12x1 i12x2 i12x3 i12x4 i12x5 s12x6 n12x6 s13x0 n13x0 i13x1 i13x2 i13x3 i13x4 i13x5 s13x6 n13x6 s65 n65 i66 i67 s72 n72 i73 i74 h Q) := loop_eqn _ _ _ _ _ h Q (by kernel_rfl) (L7x44xaux mk0 C s2 n2 i3x0 s3x1 n3x1 i3x2 s3x3 n3x3 p7c0 i8x0 s8x1 n8x1 i8x2 s8x3 n8x3 s12x0 n12x0 i12x1 i12x2 i12x3 i12x4 i12x5 s12x6 n12x6 s13x0 n13x0 i13x1 i13x2 i13x3 i13x4 i13x5 s13x6 n13x6 s65 n65 i66 i67 s72 n72 i73 i74 h Q)
theorem X7x32xe2 (s2 : SA) (n2 : Nat) (i3x0 : Int) (s3x1 : SA) (n3x1 : Nat) (i3x2 : Int) (s3x3 : SA) (n3x3 : Nat) (i8x0 : Int) (s8x1 : SA) (n8x1 : Nat) (i8x2 : Int) (s8x3 : SA) (n8x3 : Nat) (h : Heap) : Q7x32 M C (.exit 2) (S7xe2 s2 n2 i3x0 s3x1 n3x1 i3x2 s3x3 n3x3 i8x0 s8x1 n8x1 i8x2 s8x3 n8x3 h) = (
 L7x64 M C s2 n2 i3x0 s3x1 n3x1 i3x2 s3x3 n3x3 i8x0 s8x1 n8x1 i8x2 s8x3 n8x3 .nil 0 (n3x1 : Int) 0 h (Q7x64 M C)
 ) := by kernel_rfl
theorem L7x64xaux (s2 : SA) (n2 : Nat) (i3x0 : Int) (s3x1 : SA) (n3x1 : Nat) (i3x2 : Int) (s3x3 : SA) (n3x3 : Nat) (i8x0 : Int) (s8x1 : SA) (n8x1 : Nat) (i8x2 : Int) (s8x3 : SA) (n8x3 : Nat) (s16 : SA) (n16 : Nat) (i129 i130 : Int) (h : Heap) (Q : Kont R) : (restrF 2041694201525630780780247644590609334540 ⟨(.any :: .any :: (vl s2 n2 :: (.box [(.int .i64 i3x0), (.sl s3x1 n3x1), (.int .i64 i3x2), (.sl s3x3 n3x3)] :: (rep 4 (.box [(.int .i64 i8x0), (.sl s8x1 n8x1), (.int .i64 i8x2), (.sl s8x3 n8x3)] :: (rep 7 (vl s16 n16 :: (rep 112 (vi i129 :: (vi i130 :: (rep 94 []))))))))))), h⟩ fun σ => evalE M C k7x64 σ (roundQ M C k7x64 2041694201525630780780247644590609334540 65800 Q)) = (
 letK (decide (i130 < i129)) fun b131 =>
 if b131 = true then
  (
  letK (decide (i130 < (n2 : Int))) fun b136 =>
  if b136 = true then
   (
   chk (true = true → 0 ≤ i130 ∧ i130 < (n2 : Int)) <|
   atP (adP s2) true fun a139 =>
   gI .i64 (ld1 h (Ad.add a139 (Int.toNat i130 * 1))) true fun i140 =>
   (C 22 [(.int .i64 i140)] h).bind fun r141 =>
   gI .i64 (some r141.1) true fun i141 =>
   J7x76 M C s2 n2 i3x0 s3x1 n3x1 i3x2 s3x3 n3x3 i8x0 s8x1 n8x1 i8x2 s8x3 n8x3 s16 n16 i141 i129 i130 r141.2 Q
   )
  else
   (
   J7x76 M C s2 n2 i3x0 s3x1 n3x1 i3x2 s3x3 n3x3 i8x0 s8x1 n8x1 i8x2 s8x3 n8x3 s16 n16 3 i129 i130 h Q
   )
  )
 else
  (
  Q (.exit 6) (S7xe6 i3x0 s3x1 n3x1 i3x2 s3x3 n3x3 i8x0 s8x1 n8x1 i8x2 s8x3 n8x3 s16 n16 h)
  )
 ) := by kernel_rfl
theorem L7x64xeq (s2 : SA) (n2 : Nat) (i3x0 : Int) (s3x1 : SA) (n3x1 : Nat) (i3x2 : Int) (s3x3 : SA) (n3x3 : Nat) (i8x0 : Int) (s8x1 : SA) (n8x1 : Nat) (i8x2 : Int) (s8x3 : SA) (n8x3 : Nat) (s16 : SA) (n16 : Nat) (i129 i130 : Int) (h : Heap) (Q : Kont R) : TEq (L7x64 mk0 C s2 n2 i3x0 s3x1 n3x1 i3x2 s3x3 n3x3 i8x0 s8x1 n8x1 i8x2 s8x3 n8x3 s16 n16 i129 i130 h Q) (L7x64xaux mk0 C s2 n2 i3x0 s3x1 n3x1 i3x2 s3x3 n3x3 i8x0 s8x1 n8x1 i8x2 s8x3 n8x3 s16 n16 i129 i130 h Q) := loop_eqn _ _ _ _ _ h Q (by kernel_rfl) (L7x64xaux mk0 C s2 n2 i3x0 s3x1 n3x1 i3x2 s3x3 n3x3 i8x0 s8x1 n8x1 i8x2 s8x3 n8x3 s16 n16 i129 i130 h Q)
theorem J7x76xaux (M : Mk) (C : Cal) (s2 : SA) (n2 : Nat) (i3x0 : Int) (s3x1 : SA) (n3x1 : Nat) (i3x2 : Int) (s3x3 : SA) (n3x3 : Nat) (i8x0 : Int) (s8x1 : SA) (n8x1 : Nat) (i8x2 : Int) (s8x3 : SA) (n8x3 : Nat) (s16 : SA) (n16 : Nat) (i18 i129 i130 : Int) (h : Heap) (Q : Kont R) : (forceK tk (.any :: .any :: (vl s2 n2 :: (.box [(.int .i64 i3x0), (.sl s3x1 n3x1), (.int .i64 i3x2), (.sl s3x3 n3x3)] :: (rep 4 (.box [(.int .i64 i8x0), (.sl s8x1 n8x1), (.int .i64 i8x2), (.sl s8x3 n8x3)] :: (rep 7 (vl s16 n16 :: (.any :: (vi i18 :: (rep 110 (vi i129 :: (vi i130 :: (rep 94 []))))))))))))) fun e => (seqQ (evalE M C k7x73) (blockQ 7 (seqQ (evalE M C k7x70) (seqQ (evalE M C k7x69) (roundQ M C k7x64 2041694201525630780780247644590609334540 65800 Q))))) .normal ⟨e, h⟩) = (
 newK h (.cells [(.int .i64 i18)] (.grow 1) 0) fun h_2 =>
 (ldSl h_2 (.pos ⟨List.length h, 0, 0⟩) (1 * 1)).bind fun y145 =>
 (apnd h_2 (.sl s16 n16) 1 8 y145 1).bind fun r145 =>
 gL (some r145.1) true fun s145 n145 =>
 letK (IntKind.wrap .i64 (i130 + 1)) fun i146 =>
 L7x64 M C s2 n2 i3x0 s3x1 n3x1 i3x2 s3x3 n3x3 i8x0 s8x1 n8x1 i8x2 s8x3 n8x3 s145 n145 i129 i146 r145.2 Q
 ) := by kernel_rfl
theorem J7x76xeq (C : Cal) (s2 : SA) (n2 : Nat) (i3x0 : Int) (s3x1 : SA) (n3x1 : Nat) (i3x2 : Int) (s3x3 : SA) (n3x3 : Nat) (i8x0 : Int) (s8x1 : SA) (n8x1 : Nat) (i8x2 : Int) (s8x3 : SA) (n8x3 : Nat) (s16 : SA) (n16 : Nat) (i18 i129 i130 : Int) (h : Heap) (Q : Kont R) : TEq (J7x76 mk0 C s2 n2 i3x0 s3x1 n3x1 i3x2 s3x3 n3x3 i8x0 s8x1 n8x1 i8x2 s8x3 n8x3 s16 n16 i18 i129 i130 h Q) (J7x76xaux mk0 C s2 n2 i3x0 s3x1 n3x1 i3x2 s3x3 n3x3 i8x0 s8x1 n8x1 i8x2 s8x3 n8x3 s16 n16 i18 i129 i130 h Q) := join_eqn _ _ h (J7x76xaux mk0 C s2 n2 i3x0 s3x1 n3x1 i3x2 s3x3 n3x3 i8x0 s8x1 n8x1 i8x2 s8x3 n8x3 s16 n16 i18 i129 i130 h Q)
theorem X7x44xr (b6 : Bool) (h : Heap) (Q : Kont R) : Q7x44 M C Q .ret (S7xr b6 h) = (
 Q .ret (S7xr b6 h)
 ) := by kernel_rfl
theorem X7x32xr (b6 : Bool) (h : Heap) : Q7x32 M C .ret (S7xr b6 h) = (
 some ((.bool b6), h)
 ) := by kernel_rfl
theorem X7x44xe4 (s2 : SA) (n2 : Nat) (i3x0 : Int) (s3x1 : SA) (n3x1 : Nat) (i3x2 : Int) (s3x3 : SA) (n3x3 : Nat) (p7c0 : Option Ad) (i8x0 : Int) (s8x1 : SA) (n8x1 : Nat) (i8x2 : Int) (s8x3 : SA) (n8x3 : Nat) (s12x0 : SA) (n12x0 : Nat) (i12x1 i12x2 : Int) (i12x3 i12x4 i12x5 : Int) (s12x6 : SA) (n12x6 : Nat) (s13x0 : SA) (n13x0 : Nat) (i13x1 i13x2 : Int) (i13x3 i13x4 i13x5 : Int) (s13x6 : SA) (n13x6 : Nat) (s65 : SA) (n65 : Nat) (i66 i67 : Int) (h : Heap) (Q : Kont R) : Q7x44 M C Q (.exit 4) (S7xe4 s2 n2 i3x0 s3x1 n3x1 i3x2 s3x3 n3x3 p7c0 i8x0 s8x1 n8x1 i8x2 s8x3 n8x3 s12x0 n12x0 i12x1 i12x2 i12x3 i12x4 i12x5 s12x6 n12x6 s13x0 n13x0 i13x1 i13x2 i13x3 i13x4 i13x5 s13x6 n13x6 s65 n65 i66 i67 h) = (
 (C 19 [(.int .i64 i12x3), (.ptr p7c0)] h).bind fun r110 =>
 gI .i64 (some r110.1) true fun i110 =>
 (C 19 [(.int .i64 i12x4), (.ptr p7c0)] r110.2).bind fun r115 =>
 gI .i64 (some r115.1) true fun i115 =>
 newK r115.2 (.cells [(.sl s13x0 n13x0), (.int .i64 i12x1), (.int .i64 i12x2), (.int .i64 i110), (.int .i64 i115), (.int .i64 i12x5), (.sl s12x6 n12x6)] (.grow 7) 0) fun h_2 =>
 (ldSl h_2 (.pos ⟨List.length r115.2, 0, 0⟩) (1 * 7)).bind fun y124 =>
 (apnd h_2 (.sl s8x3 n8x3) 7 88 y124 1).bind fun r124 =>
 gL (some r124.1) true fun s124 n124 =>
 letK (IntKind.wrap .i64 (i67 + 1)) fun i126 =>
 L7x32 M C s2 n2 i3x0 s3x1 n3x1 i3x2 s3x3 n3x3 p7c0 i8x0 s8x1 n8x1 i8x2 s124 n124 s65 n65 i66 i126 r124.2 Q
 ) := by kernel_rfl
theorem X7x64xe6 (i3x0 : Int) (s3x1 : SA) (n3x1 : Nat) (i3x2 : Int) (s3x3 : SA) (n3x3 : Nat) (i8x0 : Int) (s8x1 : SA) (n8x1 : Nat) (i8x2 : Int) (s8x3 : SA) (n8x3 : Nat) (s16 : SA) (n16 : Nat) (h : Heap) : Q7x64 M C (.exit 6) (S7xe6 i3x0 s3x1 n3x1 i3x2 s3x3 n3x3 i8x0 s8x1 n8x1 i8x2 s8x3 n8x3 s16 n16 h) = (
 newK h (.cells [(.int .i64 i3x0), (.sl s3x1 n3x1), (.int .i64 i3x2), (.sl s3x3 n3x3)] (.grow 4) 0) fun h_2 =>
 chk ((0 : Int) ≤ 64 ∧ (64 : Int) ≤ 64 ∧ 64 * ((8 : Nat) : Int) ≤ 70368744177664) <|
 newK h_2 (.cells (repl (Int.toNat 64) [(.int .i64 0)]) (.grow 1) 0) fun h_3 =>
 newK h_3 (.cells [(.sl (.pos ⟨List.length h, 0, 0⟩) 1), (.sl (.pos ⟨List.length h_2, 0, 0⟩) (Int.toNat 64)), (.int .i64 400), (.int .i64 500), (.sl .nil 0), (.int .i64 0), (.bool false), (.bool false), (.int .i64 0)] .fix 0) fun h_4 =>
 newK h_4 (.cells [(.int .i64 i8x0), (.sl s8x1 n8x1), (.int .i64 i8x2), (.sl s8x3 n8x3)] (.grow 4) 0) fun h_5 =>
 chk ((0 : Int) ≤ 64 ∧ (64 : Int) ≤ 64 ∧ 64 * ((8 : Nat) : Int) ≤ 70368744177664) <|
 newK h_5 (.cells (repl (Int.toNat 64) [(.int .i64 0)]) (.grow 1) 0) fun h_6 =>
 newK h_6 (.cells [(.sl (.pos ⟨List.length h_4, 0, 0⟩) 1), (.sl (.pos ⟨List.length h_5, 0, 0⟩) (Int.toNat 64)), (.int .i64 400), (.int .i64 500), (.sl .nil 0), (.int .i64 0), (.bool false), (.bool false), (.int .i64 0)] .fix 0) fun h_7 =>
 (C 23 [(.ptr (some ⟨List.length h_3, 0, 0⟩)), (.int .i64 0), (.sl s16 n16)] h_7).bind fun r161 =>
 gI .i64 (some r161.1) true fun i161 =>
 (C 23 [(.ptr (some ⟨List.length h_6, 0, 0⟩)), (.int .i64 0), (.sl s16 n16)] r161.2).bind fun r164 =>
 gI .i64 (some r164.1) true fun i164 =>
 letK (decide (i161 = i164)) fun b167 =>
 atP (some ⟨List.length h_3, 0, 0⟩) b167 fun a170 =>
 atP (some a170) b167 fun a171 =>
 atP (some (Ad.add a171 6)) b167 fun a172 =>
 gB (ld1 r164.2 a172) b167 fun b172 =>
 atP (some ⟨List.length h_6, 0, 0⟩) b167 fun a174 =>
 atP (some a174) b167 fun a175 =>
 atP (some (Ad.add a175 6)) b167 fun a176 =>
 gB (ld1 r164.2 a176) b167 fun b176 =>
 letK (if b167 = true then (b172 == b176) else false) fun b178 =>
 atP (some ⟨List.length h_3, 0, 0⟩) b178 fun a181 =>
 atP (some a181) b178 fun a182 =>
 atP (some (Ad.add a182 7)) b178 fun a183 =>
 gB (ld1 r164.2 a183) b178 fun b183 =>
 atP (some ⟨List.length h_6, 0, 0⟩) b178 fun a185 =>
 atP (some a185) b178 fun a186 =>
 atP (some (Ad.add a186 7)) b178 fun a187 =>
 gB (ld1 r164.2 a187) b178 fun b187 =>
 letK (if b178 = true then (b183 == b187) else false) fun b189 =>
 atP (some ⟨List.length h_3, 0, 0⟩) b189 fun a192 =>
 atP (some a192) b189 fun a193 =>
 atP (some (Ad.add a193 5)) b189 fun a194 =>
 gI .i64 (ld1 r164.2 a194) b189 fun i194 =>
 atP (some ⟨List.length h_6, 0, 0⟩) b189 fun a196 =>
 atP (some a196) b189 fun a197 =>
 atP (some (Ad.add a197 5)) b189 fun a198 =>
 gI .i64 (ld1 r164.2 a198) b189 fun i198 =>
 letK (decide (i194 = i198)) fun b199 =>
 letK (if b189 = true then b199 else false) fun b200 =>
 atP (some ⟨List.length h_3, 0, 0⟩) b200 fun a203 =>
 atP (some a203) b200 fun a204 =>
 atP (some (Ad.add a204 4)) b200 fun a205 =>
 gL (ld1 r164.2 a205) b200 fun s205 n205 =>
 atP (some ⟨List.length h_6, 0, 0⟩) b200 fun a207 =>
 atP (some a207) b200 fun a208 =>
 atP (some (Ad.add a208 4)) b200 fun a209 =>
 gL (ld1 r164.2 a209) b200 fun s209 n209 =>
 (callO b200 (C 24 [(.sl s205 n205), (.sl s209 n209)] r164.2) (.bool false) r164.2).bind fun r210 =>
 gB (some r210.1) b200 fun b210 =>
 letK (if b200 = true then b210 else false) fun b211 =>
 atP (some ⟨List.length h_3, 0, 0⟩) b211 fun a214 =>
 atP (some a214) b211 fun a215 =>
 atP (some (Ad.add a215 1)) b211 fun a216 =>
 atP (some (Ad.add a216 0)) b211 fun a217 =>
 gL (ld1 r210.2 a217) b211 fun s217 n217 =>
 atP (some ⟨List.length h_6, 0, 0⟩) b211 fun a219 =>
 atP (some a219) b211 fun a220 =>
 atP (some (Ad.add a220 1)) b211 fun a221 =>
 atP (some (Ad.add a221 0)) b211 fun a222 =>
 gL (ld1 r210.2 a222) b211 fun s222 n222 =>
 (callO b211 (C 24 [(.sl s217 n217), (.sl s222 n222)] r210.2) (.bool false) r210.2).bind fun r223 =>
 gB (some r223.1) b211 fun b223 =>
 letK (if b211 = true then b223 else false) fun b224 =>
 some ((.bool b224), r223.2)
 ) := by kernel_rfl
end
end Go.Proofs.Ytnmdadadjneaiaa.D
