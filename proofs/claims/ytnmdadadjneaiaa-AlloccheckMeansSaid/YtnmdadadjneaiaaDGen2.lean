/- Parts of the proof, printed. -/
import Derived.Test.YtnmdadadjneaiaaLibD
import Derived.Test.YtnmdadadjneaiaaDGen
import Derived.KernelRfl
set_option linter.unusedVariables false
set_option maxRecDepth 100000
namespace Go.Proofs.Ytnmdadadjneaiaa.D
open Go Go.Proofs.Ytnmdadadjneaiaa.Abs Abs.Sh Go.Proofs
section
variable {R : Type} (M : Mk) (C : Cal)
theorem r21 (i0 : Int) (h : Heap) : runE M C c21 [(.int .i64 i0)] h = (
 letK (decide (i0 = 101)) fun b4 =>
 letK (decide (i0 = 102)) fun b7 =>
 letK (if b4 = true then true else b7) fun b8 =>
 some ((.bool b8), h)
 ) := by kernel_rfl
theorem e21 (i0 : Int) (h : Heap) : TEq (E 21 [(.int .i64 i0)] h) (r21 mk0 E i0 h) := (EV_eq (P := Try.prog) (T := T0) rfl cf21 _ h).trans (r21 mk0 E i0 h)
def k33x6 : AC := .ret
def k33x5 : AC := .seq (.mask 16) k33x6
def k33x4 : AC := .mask 1
def k33x3 : AC := .seq (.cond (.tmp 9)
 (.seq (.ops false [
 o 10 (.move (t 0)),
 o 11 (.move (t 1)),
 o 12 (.bin .other .add (t 10) (t 11)),
 o 4 (.move (t 12))]) k33x5)
  (.skip)) k33x4
def k33x8 : AC := .ret
def k33x7 : AC := .seq (.mask 16) k33x8
def k33x2 : AC := .seq (.ops false [
 o 13 (.move (t 0)),
 o 4 (.move (t 13))]) k33x7
def k33x1 : AC := .seq (.seq (.ops false [
 o 8 (.move (t 0)),
 o 9 (.bin .other .lss (t 8) (c 0))]) k33x3) k33x2
def k33x0 : AC := .seq (.ops false [
 o 5 (.move (t 0)),
 o 6 (.move (t 1)),
 o 7 (.bin .other .rem (t 5) (t 6)),
 o 0 (.move (t 7))]) k33x1
def c33 : AFn := ⟨14, [.tmp 4],
 .seq (.ops false [
 o 4 (.move (c 0))]) k33x0⟩
theorem r33 (i0 i1 : Int) (h : Heap) : runE M C c33 [(.int .i64 i0), (.int .i64 i1)] h = (
 chk (true = true → i1 ≠ 0) <|
 letK (Int.tmod i0 i1) fun i7 =>
 letK (decide (i7 < 0)) fun b9 =>
 if b9 = true then
  (
  letK (IntKind.wrap .i64 (i7 + i1)) fun i12 =>
  some ((.int .i64 i12), h)
  )
 else
  (
  some ((.int .i64 i7), h)
  )
 ) := by kernel_rfl
theorem cf33 : cFn Try.prog 33 = some c33 := by kernel_rfl
theorem e33 (i0 i1 : Int) (h : Heap) : TEq (E 33 [(.int .i64 i0), (.int .i64 i1)] h) (r33 mk0 E i0 i1 h) := (EV_eq (P := Try.prog) (T := T0) rfl cf33 _ h).trans (r33 mk0 E i0 i1 h)
def k49x6 : AC := .ret
def k49x5 : AC := .seq (.mask 16) k49x6
def k49x10 : AC := .ret
def k49x9 : AC := .seq (.mask 16) k49x10
def k49x14 : AC := .ret
def k49x13 : AC := .seq (.mask 16) k49x14
def k49x12 : AC := .mask 0
def k49x11 : AC := .seq (.cond (.tmp 20)
 (.seq (.ops false [
 o 27 (.fieldAddr 1 (t 2)),
 o 28 (.load (.cell .sl) (t 27)),
 o 29 (.move (t 1)),
 o 30 (.indexAddr 1 (t 28) (t 29)),
 o 31 (.load I (t 30)),
 o 32 (.bin .other .add (c 11) (t 31)),
 o 4 (.move (t 32))]) k49x13)
  (.skip)) k49x12
def k49x8 : AC := .mask 0
def k49x7 : AC := .seq (.cond (.tmp 8)
 (.seq (.ops false [
 o 15 (.fieldAddr 0 (t 2)),
 o 16 (.load (.cell .sl) (t 15)),
 o 17 (.move (t 1)),
 o 18 (.indexAddr 1 (t 16) (t 17)),
 o 19 (.load I (t 18)),
 o 4 (.move (t 19))]) k49x9)
  (.seq (.ops false [
 o 21 (.fieldAddr 1 (t 2)),
 o 22 (.load (.cell .sl) (t 21)),
 o 23 (.move (t 1)),
 o 24 (.indexAddr 1 (t 22) (t 23)),
 o 25 (.load I (t 24)),
 o 26 (.bin .other .geq (t 25) (c 0)),
 o 20 (.move (t 26))]) k49x11)) k49x8
def k49x4 : AC := .mask 0
def k49x3 : AC := .seq (.cond (.tmp 5)
 (.seq (.ops false [
 o 4 (.move (c 0))]) k49x5)
  (.seq (.ops false [
 o 9 (.fieldAddr 0 (t 2)),
 o 10 (.load (.cell .sl) (t 9)),
 o 11 (.move (t 1)),
 o 12 (.indexAddr 1 (t 10) (t 11)),
 o 13 (.load I (t 12)),
 o 14 (.bin .other .gtr (t 13) (c 0)),
 o 8 (.move (t 14))]) k49x7)) k49x4
def k49x2 : AC := .mask 0
def k49x16 : AC := .ret
def k49x15 : AC := .seq (.mask 16) k49x16
def k49x1 : AC := .seq (.ops false [
 o 4 (.move (c 0))]) k49x15
def k49x0 : AC := .seq (.seq (.block 0 (.seq (.ops false [
 o 6 (.move (t 1)),
 o 7 (.bin .other .eql (t 6) (c 0)),
 o 5 (.move (t 7))]) k49x3)) k49x2) k49x1
def c49 : AFn := ⟨33, [.tmp 4],
 .seq (.ops false [
 o 2 (.boxL (t 0)),
 o 4 (.move (c 0))]) k49x0⟩
theorem r49 (s0x0 : SA) (n0x0 : Nat) (s0x1 : SA) (n0x1 : Nat) (i0x2 i1 : Int) (h : Heap) : runE M C c49 [(.agg [(.sl s0x0 n0x0), (.sl s0x1 n0x1), (.int .i64 i0x2)]), (.int .i64 i1)] h = (
 letK (decide (i1 = 0)) fun b7 =>
 if b7 = true then
  (
  some ((.int .i64 0), h)
  )
 else
  (
  chk (true = true → 0 ≤ i1 ∧ i1 < (n0x0 : Int)) <|
  atP (adP s0x0) true fun a12 =>
  gI .i64 (ld1 h (Ad.add a12 (Int.toNat i1 * 1))) true fun i13 =>
  letK (decide ((0 : Int) < i13)) fun b14 =>
  if b14 = true then
   (
   chk (true = true → 0 ≤ i1 ∧ i1 < (n0x0 : Int)) <|
   atP (adP s0x0) true fun a18 =>
   gI .i64 (ld1 h (Ad.add a18 (Int.toNat i1 * 1))) true fun i19 =>
   some ((.int .i64 i19), h)
   )
  else
   (
   chk (true = true → 0 ≤ i1 ∧ i1 < (n0x1 : Int)) <|
   atP (adP s0x1) true fun a24 =>
   gI .i64 (ld1 h (Ad.add a24 (Int.toNat i1 * 1))) true fun i25 =>
   letK (decide (0 ≤ i25)) fun b26 =>
   if b26 = true then
    (
    chk (true = true → 0 ≤ i1 ∧ i1 < (n0x1 : Int)) <|
    atP (adP s0x1) true fun a30 =>
    gI .i64 (ld1 h (Ad.add a30 (Int.toNat i1 * 1))) true fun i31 =>
    letK (IntKind.wrap .i64 (11 + i31)) fun i32 =>
    some ((.int .i64 i32), h)
    )
   else
    (
    some ((.int .i64 0), h)
    )
   )
  )
 ) := by kernel_rfl
theorem cf49 : cFn Try.prog 49 = some c49 := by kernel_rfl
theorem e49 (s0x0 : SA) (n0x0 : Nat) (s0x1 : SA) (n0x1 : Nat) (i0x2 i1 : Int) (h : Heap) : TEq (E 49 [(.agg [(.sl s0x0 n0x0), (.sl s0x1 n0x1), (.int .i64 i0x2)]), (.int .i64 i1)] h) (r49 mk0 E s0x0 n0x0 s0x1 n0x1 i0x2 i1 h) := (EV_eq (P := Try.prog) (T := T0) rfl cf49 _ h).trans (r49 mk0 E s0x0 n0x0 s0x1 n0x1 i0x2 i1 h)
def k47x9 : AC := .exit 0
def k47x8 : AC := .mask 3106
def k47x12 : AC := .ops false [
 o 14 (.move (t 5)),
 o 15 (.move (t 6)),
 o 16 (.move (t 1)),
 o 17 (.makeSl [(.bool false)] 1 (t 16) (t 16)),
 o 18 (.indexAddr 1 (t 14) (t 15)),
 u (.store 1 (t 18) (t 17))]
def k47x11 : AC := .mask 3106
def k47x10 : AC := .ops false [
 o 19 (.bin .other .add (t 11) (c 1)),
 o 11 (.move (t 19))]
def k47x7 : AC := .seq (.seq (.block 1 (.seq (.ops false [
 o 13 (.move (t 11)),
 o 6 (.move (t 13))]) k47x12)) k47x11) k47x10
def k47x6 : AC := .seq (.seq (.cond (.tmp 12)
 (.skip)
 (.seq (.mask 32) k47x9)) k47x8) k47x7
def k47x5 : AC := .seq (.ops false [
 o 12 (.bin .other .lss (t 11) (t 10))]) k47x6
def k47x4 : AC := .mask 32
def k47x3 : AC := .seq (.block 0 (.loop 3106 32 k47x5)) k47x4
def k47x14 : AC := .ret
def k47x13 : AC := .seq (.mask 16) k47x14
def k47x2 : AC := .seq (.ops false [
 o 20 (.move (t 5)),
 o 4 (.move (t 20))]) k47x13
def k47x1 : AC := .seq (.seq (.ops false [
 o 9 (.move (t 5)),
 o 10 (.lenSl (t 9)),
 o 11 (.move (c 0))]) k47x3) k47x2
def k47x0 : AC := .seq (.ops false [
 o 7 (.move (t 0)),
 o 8 (.makeSl [(.sl .nil 0)] 24 (t 7) (t 7)),
 o 5 (.move (t 8))]) k47x1
def c47 : AFn := ⟨21, [.tmp 4],
 .seq (.ops false [
 o 4 (.move (.c (.sl .nil 0)))]) k47x0⟩
def S47xe0 (s5 : SA) (n5 : Nat) (h : Heap) : St := ⟨(rep 5 (vl s5 n5 :: (rep 15 []))), h⟩
noncomputable def Q47x5 (M : Mk) (C : Cal) : Kont (AV × Heap) := (blockQ 0 (seqQ (evalE M C k47x4) (seqQ (evalE M C k47x2) (endQ [.tmp 4]))))
noncomputable def L47x5 (i1 : Int) (s5 : SA) (n5 : Nat) (i10 i11 : Int) (h : Heap) (Q : Kont R) : Option R := loopE (evalE M C k47x5) 3106 32 ⟨(.any :: (vi i1 :: (rep 3 (vl s5 n5 :: (rep 4 (vi i10 :: (vi i11 :: (rep 9 [])))))))), h⟩ Q
theorem r47 (i0 i1 : Int) (h : Heap) : runE M C c47 [(.int .i64 i0), (.int .i64 i1)] h = (
 chk (0 ≤ i0 ∧ i0 ≤ i0 ∧ i0 * ((24 : Nat) : Int) ≤ 70368744177664) <|
 newK h (.cells (repl (Int.toNat i0) [(.sl .nil 0)]) (.grow 1) 0) fun h_2 =>
 L47x5 M C i1 (.pos ⟨List.length h, 0, 0⟩) (Int.toNat i0) (((Int.toNat i0) : Nat) : Int) 0 h_2 (Q47x5 M C)
 ) := by kernel_rfl
theorem cf47 : cFn Try.prog 47 = some c47 := by kernel_rfl
theorem e47 (i0 i1 : Int) (h : Heap) : TEq (E 47 [(.int .i64 i0), (.int .i64 i1)] h) (r47 mk0 E i0 i1 h) := (EV_eq (P := Try.prog) (T := T0) rfl cf47 _ h).trans (r47 mk0 E i0 i1 h)
theorem L47x5xaux (i1 : Int) (s5 : SA) (n5 : Nat) (i10 i11 : Int) (h : Heap) (Q : Kont R) : (restrF 3106 ⟨(.any :: (vi i1 :: (rep 3 (vl s5 n5 :: (rep 4 (vi i10 :: (vi i11 :: (rep 9 [])))))))), h⟩ fun σ => evalE M C k47x5 σ (roundQ M C k47x5 3106 32 Q)) = (
 letK (decide (i11 < i10)) fun b12 =>
 if b12 = true then
  (
  chk (0 ≤ i1 ∧ i1 ≤ i1 ∧ i1 * ((1 : Nat) : Int) ≤ 70368744177664) <|
  newK h (.cells (repl (Int.toNat i1) [(.bool false)]) (.grow 1) 0) fun h_2 =>
  chk (true = true → 0 ≤ i11 ∧ i11 < (n5 : Int)) <|
  atP (adP s5) true fun a18 =>
  (st1 h_2 (Ad.add a18 (Int.toNat i11 * 1)) (.sl (.pos ⟨List.length h, 0, 0⟩) (Int.toNat i1))).bind fun h_3 =>
  letK (IntKind.wrap .i64 (i11 + 1)) fun i19 =>
  L47x5 M C i1 s5 n5 i10 i19 h_3 Q
  )
 else
  (
  Q (.exit 0) (S47xe0 s5 n5 h)
  )
 ) := by kernel_rfl
theorem L47x5xeq (i1 : Int) (s5 : SA) (n5 : Nat) (i10 i11 : Int) (h : Heap) (Q : Kont R) : TEq (L47x5 mk0 C i1 s5 n5 i10 i11 h Q) (L47x5xaux mk0 C i1 s5 n5 i10 i11 h Q) := loop_eqn _ _ _ _ _ h Q (by kernel_rfl) (L47x5xaux mk0 C i1 s5 n5 i10 i11 h Q)
theorem X47x5xe0 (s5 : SA) (n5 : Nat) (h : Heap) : Q47x5 M C (.exit 0) (S47xe0 s5 n5 h) = (
 some ((.sl s5 n5), h)
 ) := by kernel_rfl
theorem r80 (s0 : SA) (n0 : Nat) (h : Heap) : runE M C c80 [(.sl s0 n0)] h = (
 if (SA.isNil s0) = true then
  (
  some ((.sl .nil 0), h)
  )
 else
  (
  newK h (.cells [] (.grow 1) 0) fun h_2 =>
  (ldSl h_2 s0 (n0 * 1)).bind fun y7 =>
  (apnd h_2 (.sl (.pos ⟨List.length h, 0, 0⟩) 0) 1 1 y7 n0).bind fun r7 =>
  gL (some r7.1) true fun s7 n7 =>
  some ((.sl s7 n7), r7.2)
  )
 ) := by kernel_rfl
theorem e80 (s0 : SA) (n0 : Nat) (h : Heap) : TEq (E 80 [(.sl s0 n0)] h) (r80 mk0 E s0 n0 h) := (EV_eq (P := Try.prog) (T := T0) rfl cf80 _ h).trans (r80 mk0 E s0 n0 h)
def k50x9 : AC := .exit 0
def k50x8 : AC := .mask 3592
def k50x12 : AC := .ops false [
 o 16 (.move (t 3)),
 o 17 (.move (t 4)),
 o 18 (.move (t 5)),
 o 19 (.call 80 [(t 18)] [(.cell .sl)] (.sl .nil 0)),
 o 20 (.indexAddr 1 (t 16) (t 17)),
 u (.store 1 (t 20) (t 19))]
def k50x11 : AC := .mask 3592
def k50x10 : AC := .ops false [
 o 21 (.bin .other .add (t 11) (c 1)),
 o 11 (.move (t 21))]
def k50x7 : AC := .seq (.seq (.block 1 (.seq (.ops false [
 o 13 (.move (t 11)),
 o 14 (.indexAddr 1 (t 9) (t 11)),
 o 15 (.load (.cell .sl) (t 14)),
 o 4 (.move (t 13)),
 o 5 (.move (t 15))]) k50x12)) k50x11) k50x10
def k50x6 : AC := .seq (.seq (.cond (.tmp 12)
 (.skip)
 (.seq (.mask 8) k50x9)) k50x8) k50x7
def k50x5 : AC := .seq (.ops false [
 o 12 (.bin .other .lss (t 11) (t 10))]) k50x6
def k50x4 : AC := .mask 8
def k50x3 : AC := .seq (.block 0 (.loop 3592 8 k50x5)) k50x4
def k50x14 : AC := .ret
def k50x13 : AC := .seq (.mask 4) k50x14
def k50x2 : AC := .seq (.ops false [
 o 22 (.move (t 3)),
 o 2 (.move (t 22))]) k50x13
def k50x1 : AC := .seq (.seq (.ops false [
 o 9 (.move (t 0)),
 o 10 (.lenSl (t 9)),
 o 11 (.move (c 0))]) k50x3) k50x2
def k50x0 : AC := .seq (.ops false [
 o 6 (.move (t 0)),
 o 7 (.lenSl (t 6)),
 o 8 (.makeSl [(.sl .nil 0)] 24 (t 7) (t 7)),
 o 3 (.move (t 8))]) k50x1
def c50 : AFn := ⟨23, [.tmp 2],
 .seq (.ops false [
 o 2 (.move (.c (.sl .nil 0)))]) k50x0⟩
def S50xe0 (s3 : SA) (n3 : Nat) (h : Heap) : St := ⟨(rep 3 (vl s3 n3 :: (rep 19 []))), h⟩
noncomputable def Q50x5 (M : Mk) (C : Cal) : Kont (AV × Heap) := (blockQ 0 (seqQ (evalE M C k50x4) (seqQ (evalE M C k50x2) (endQ [.tmp 2]))))
noncomputable def L50x5 (s3 : SA) (n3 : Nat) (s9 : SA) (n9 : Nat) (i10 i11 : Int) (h : Heap) (Q : Kont R) : Option R := loopE (evalE M C k50x5) 3592 8 ⟨(rep 3 (vl s3 n3 :: (rep 5 (vl s9 n9 :: (vi i10 :: (vi i11 :: (rep 11 []))))))), h⟩ Q
theorem r50 (s0 : SA) (n0 : Nat) (h : Heap) : runE M C c50 [(.sl s0 n0)] h = (
 chk ((0 : Int) ≤ (n0 : Int) ∧ ((n0 : Int) : Int) ≤ (n0 : Int) ∧ (n0 : Int) * ((24 : Nat) : Int) ≤ 70368744177664) <|
 newK h (.cells (repl (Int.toNat (n0 : Int)) [(.sl .nil 0)]) (.grow 1) 0) fun h_2 =>
 letK (Int.toNat (n0 : Int)) fun n8 =>
 L50x5 M C (.pos ⟨List.length h, 0, 0⟩) n8 s0 n0 (n0 : Int) 0 h_2 (Q50x5 M C)
 ) := by kernel_rfl
theorem cf50 : cFn Try.prog 50 = some c50 := by kernel_rfl
theorem e50 (s0 : SA) (n0 : Nat) (h : Heap) : TEq (E 50 [(.sl s0 n0)] h) (r50 mk0 E s0 n0 h) := (EV_eq (P := Try.prog) (T := T0) rfl cf50 _ h).trans (r50 mk0 E s0 n0 h)
theorem L50x5xaux (s3 : SA) (n3 : Nat) (s9 : SA) (n9 : Nat) (i10 i11 : Int) (h : Heap) (Q : Kont R) : (restrF 3592 ⟨(rep 3 (vl s3 n3 :: (rep 5 (vl s9 n9 :: (vi i10 :: (vi i11 :: (rep 11 []))))))), h⟩ fun σ => evalE M C k50x5 σ (roundQ M C k50x5 3592 8 Q)) = (
 letK (decide (i11 < i10)) fun b12 =>
 if b12 = true then
  (
  chk (true = true → 0 ≤ i11 ∧ i11 < (n9 : Int)) <|
  atP (adP s9) true fun a14 =>
  gL (ld1 h (Ad.add a14 (Int.toNat i11 * 1))) true fun s15 n15 =>
  (C 80 [(.sl s15 n15)] h).bind fun r19 =>
  gL (some r19.1) true fun s19 n19 =>
  chk (true = true → 0 ≤ i11 ∧ i11 < (n3 : Int)) <|
  atP (adP s3) true fun a20 =>
  (st1 r19.2 (Ad.add a20 (Int.toNat i11 * 1)) (.sl s19 n19)).bind fun h_2 =>
  letK (IntKind.wrap .i64 (i11 + 1)) fun i21 =>
  L50x5 M C s3 n3 s9 n9 i10 i21 h_2 Q
  )
 else
  (
  Q (.exit 0) (S50xe0 s3 n3 h)
  )
 ) := by kernel_rfl
theorem L50x5xeq (s3 : SA) (n3 : Nat) (s9 : SA) (n9 : Nat) (i10 i11 : Int) (h : Heap) (Q : Kont R) : TEq (L50x5 mk0 C s3 n3 s9 n9 i10 i11 h Q) (L50x5xaux mk0 C s3 n3 s9 n9 i10 i11 h Q) := loop_eqn _ _ _ _ _ h Q (by kernel_rfl) (L50x5xaux mk0 C s3 n3 s9 n9 i10 i11 h Q)
theorem X50x5xe0 (s3 : SA) (n3 : Nat) (h : Heap) : Q50x5 M C (.exit 0) (S50xe0 s3 n3 h) = (
 some ((.sl s3 n3), h)
 ) := by kernel_rfl
def k53x9 : AC := .exit 0
def k53x8 : AC := .mask 7202
def k53x19 : AC := .exit 2
def k53x18 : AC := .mask 924898
def k53x24 : AC := .join 924898
def k53x23 : AC := .seq (.cond (.tmp 34)
 (.ops false [
 o 35 (.move (t 7)),
 o 36 (.move (t 8)),
 o 37 (.indexAddr 1 (t 35) (t 36)),
 u (.store 1 (t 37) (.c (.bool false))),
 o 5 (.move (.c (.bool true)))])
  (.skip)) k53x24
def k53x22 : AC := .seq (.ops true [
 o 24 (.move (t 9)),
 o 25 (.move (t 24)),
 g 26 25 (.move (t 1)),
 g 27 25 (.move (t 6)),
 g 28 25 (.indexAddr 1 (t 26) (t 27)),
 g 29 25 (.load (.cell .sl) (t 28)),
 g 30 25 (.move (t 8)),
 g 31 25 (.indexAddr 1 (t 29) (t 30)),
 g 32 25 (.load (.cell .bool) (t 31)),
 g 33 25 (.un .not (t 32)),
 o 34 (.pick (t 25) (t 33) (.c (.bool false)))]) k53x23
def k53x21 : AC := .mask 924898
def k53x20 : AC := .ops false [
 o 38 (.bin .other .add (t 19) (c 1)),
 o 19 (.move (t 38))]
def k53x17 : AC := .seq (.seq (.block 3 (.seq (.ops false [
 o 21 (.move (t 19)),
 o 22 (.indexAddr 1 (t 17) (t 19)),
 o 23 (.load (.cell .bool) (t 22)),
 o 8 (.move (t 21)),
 o 9 (.move (t 23))]) k53x22)) k53x21) k53x20
def k53x16 : AC := .seq (.seq (.cond (.tmp 20)
 (.skip)
 (.seq (.mask 7202) k53x19)) k53x18) k53x17
def k53x15 : AC := .seq (.ops false [
 o 20 (.bin .other .lss (t 19) (t 18))]) k53x16
def k53x14 : AC := .mask 7202
def k53x13 : AC := .seq (.block 2 (.loop 924898 7202 k53x15)) k53x14
def k53x12 : AC := .seq (.ops false [
 o 17 (.move (t 7)),
 o 18 (.lenSl (t 17)),
 o 19 (.move (c 0))]) k53x13
def k53x11 : AC := .mask 7202
def k53x10 : AC := .ops false [
 o 39 (.bin .other .add (t 12) (c 1)),
 o 12 (.move (t 39))]
def k53x7 : AC := .seq (.seq (.block 1 (.seq (.ops false [
 o 14 (.move (t 12)),
 o 15 (.indexAddr 1 (t 10) (t 12)),
 o 16 (.load (.cell .sl) (t 15)),
 o 6 (.move (t 14)),
 o 7 (.move (t 16))]) k53x12)) k53x11) k53x10
def k53x6 : AC := .seq (.seq (.cond (.tmp 13)
 (.skip)
 (.seq (.mask 32) k53x9)) k53x8) k53x7
def k53x5 : AC := .seq (.ops false [
 o 13 (.bin .other .lss (t 12) (t 11))]) k53x6
def k53x4 : AC := .mask 32
def k53x3 : AC := .seq (.block 0 (.loop 7202 32 k53x5)) k53x4
def k53x27 : AC := .ret
def k53x26 : AC := .seq (.mask 16) k53x27
def k53x2 : AC := .seq (.ops false [
 o 40 (.move (t 5)),
 o 4 (.move (t 40))]) k53x26
def k53x1 : AC := .seq (.seq (.ops false [
 o 10 (.move (t 0)),
 o 11 (.lenSl (t 10)),
 o 12 (.move (c 0))]) k53x3) k53x2
def k53x0 : AC := .seq (.ops false [
 o 5 (.move (.c (.bool false)))]) k53x1
def c53 : AFn := ⟨41, [.tmp 4],
 .seq (.ops false [
 o 4 (.move (.c (.bool false)))]) k53x0⟩
def S53xe0 (b5 : Bool) (h : Heap) : St := ⟨(rep 5 (vb b5 :: (rep 35 []))), h⟩
def S53xe2 (s1 : SA) (n1 : Nat) (b5 : Bool) (s10 : SA) (n10 : Nat) (i11 i12 : Int) (h : Heap) : St := ⟨(.any :: (vl s1 n1 :: (rep 3 (vb b5 :: (rep 4 (vl s10 n10 :: (vi i11 :: (vi i12 :: (rep 28 []))))))))), h⟩
noncomputable def Q53x5 (M : Mk) (C : Cal) : Kont (AV × Heap) := (blockQ 0 (seqQ (evalE M C k53x4) (seqQ (evalE M C k53x2) (endQ [.tmp 4]))))
noncomputable def L53x5 (s1 : SA) (n1 : Nat) (b5 : Bool) (s10 : SA) (n10 : Nat) (i11 i12 : Int) (h : Heap) (Q : Kont R) : Option R := loopE (evalE M C k53x5) 7202 32 ⟨(.any :: (vl s1 n1 :: (rep 3 (vb b5 :: (rep 4 (vl s10 n10 :: (vi i11 :: (vi i12 :: (rep 28 []))))))))), h⟩ Q
noncomputable def Q53x15 (M : Mk) (C : Cal) (Q : Kont R) : Kont R := (blockQ 2 (seqQ (evalE M C k53x14) (blockQ 1 (seqQ (evalE M C k53x11) (seqQ (evalE M C k53x10) (roundQ M C k53x5 7202 32 Q))))))
noncomputable def L53x15 (s1 : SA) (n1 : Nat) (b5 : Bool) (i6 : Int) (s7 : SA) (n7 : Nat) (s10 : SA) (n10 : Nat) (i11 i12 : Int) (s17 : SA) (n17 : Nat) (i18 i19 : Int) (h : Heap) (Q : Kont R) : Option R := loopE (evalE M C k53x15) 924898 7202 ⟨(.any :: (vl s1 n1 :: (rep 3 (vb b5 :: (vi i6 :: (vl s7 n7 :: (.any :: .any :: (vl s10 n10 :: (vi i11 :: (vi i12 :: (rep 4 (vl s17 n17 :: (vi i18 :: (vi i19 :: (rep 21 []))))))))))))))), h⟩ Q
noncomputable def J53x25 (M : Mk) (C : Cal) (s1 : SA) (n1 : Nat) (b5 : Bool) (i6 : Int) (s7 : SA) (n7 : Nat) (s10 : SA) (n10 : Nat) (i11 i12 : Int) (s17 : SA) (n17 : Nat) (i18 i19 : Int) (h : Heap) (Q : Kont R) : Option R := M R (blockQ 3 (seqQ (evalE M C k53x21) (seqQ (evalE M C k53x20) (roundQ M C k53x15 924898 7202 Q)))) (.any :: (vl s1 n1 :: (rep 3 (vb b5 :: (vi i6 :: (vl s7 n7 :: (.any :: .any :: (vl s10 n10 :: (vi i11 :: (vi i12 :: (rep 4 (vl s17 n17 :: (vi i18 :: (vi i19 :: (rep 21 []))))))))))))))) h
theorem r53 (s0 : SA) (n0 : Nat) (s1 : SA) (n1 : Nat) (h : Heap) : runE M C c53 [(.sl s0 n0), (.sl s1 n1)] h = (
 L53x5 M C s1 n1 false s0 n0 (n0 : Int) 0 h (Q53x5 M C)
 ) := by kernel_rfl
theorem cf53 : cFn Try.prog 53 = some c53 := by kernel_rfl
theorem e53 (s0 : SA) (n0 : Nat) (s1 : SA) (n1 : Nat) (h : Heap) : TEq (E 53 [(.sl s0 n0), (.sl s1 n1)] h) (r53 mk0 E s0 n0 s1 n1 h) := (EV_eq (P := Try.prog) (T := T0) rfl cf53 _ h).trans (r53 mk0 E s0 n0 s1 n1 h)
theorem L53x5xaux (s1 : SA) (n1 : Nat) (b5 : Bool) (s10 : SA) (n10 : Nat) (i11 i12 : Int) (h : Heap) (Q : Kont R) : (restrF 7202 ⟨(.any :: (vl s1 n1 :: (rep 3 (vb b5 :: (rep 4 (vl s10 n10 :: (vi i11 :: (vi i12 :: (rep 28 []))))))))), h⟩ fun σ => evalE M C k53x5 σ (roundQ M C k53x5 7202 32 Q)) = (
 letK (decide (i12 < i11)) fun b13 =>
 if b13 = true then
  (
  chk (true = true → 0 ≤ i12 ∧ i12 < (n10 : Int)) <|
  atP (adP s10) true fun a15 =>
  gL (ld1 h (Ad.add a15 (Int.toNat i12 * 1))) true fun s16 n16 =>
  L53x15 M C s1 n1 b5 i12 s16 n16 s10 n10 i11 i12 s16 n16 (n16 : Int) 0 h (Q53x15 M C Q)
  )
 else
  (
  Q (.exit 0) (S53xe0 b5 h)
  )
 ) := by kernel_rfl
theorem L53x5xeq (s1 : SA) (n1 : Nat) (b5 : Bool) (s10 : SA) (n10 : Nat) (i11 i12 : Int) (h : Heap) (Q : Kont R) : TEq (L53x5 mk0 C s1 n1 b5 s10 n10 i11 i12 h Q) (L53x5xaux mk0 C s1 n1 b5 s10 n10 i11 i12 h Q) := loop_eqn _ _ _ _ _ h Q (by kernel_rfl) (L53x5xaux mk0 C s1 n1 b5 s10 n10 i11 i12 h Q)
theorem L53x15xaux (s1 : SA) (n1 : Nat) (b5 : Bool) (i6 : Int) (s7 : SA) (n7 : Nat) (s10 : SA) (n10 : Nat) (i11 i12 : Int) (s17 : SA) (n17 : Nat) (i18 i19 : Int) (h : Heap) (Q : Kont R) : (restrF 924898 ⟨(.any :: (vl s1 n1 :: (rep 3 (vb b5 :: (vi i6 :: (vl s7 n7 :: (.any :: .any :: (vl s10 n10 :: (vi i11 :: (vi i12 :: (rep 4 (vl s17 n17 :: (vi i18 :: (vi i19 :: (rep 21 []))))))))))))))), h⟩ fun σ => evalE M C k53x15 σ (roundQ M C k53x15 924898 7202 Q)) = (
 letK (decide (i19 < i18)) fun b20 =>
 if b20 = true then
  (
  chk (true = true → 0 ≤ i19 ∧ i19 < (n17 : Int)) <|
  atP (adP s17) true fun a22 =>
  gB (ld1 h (Ad.add a22 (Int.toNat i19 * 1))) true fun b23 =>
  chk (b23 = true → 0 ≤ i6 ∧ i6 < (n1 : Int)) <|
  atP (adP s1) b23 fun a28 =>
  atP (some (Ad.add a28 (Int.toNat i6 * 1))) b23 fun a29 =>
  gL (ld1 h a29) b23 fun s29 n29 =>
  chk (b23 = true → 0 ≤ i19 ∧ i19 < (n29 : Int)) <|
  atP (adP s29) b23 fun a31 =>
  atP (some (Ad.add a31 (Int.toNat i19 * 1))) b23 fun a32 =>
  gB (ld1 h a32) b23 fun b32 =>
  letK (if b23 = true then (!b32) else false) fun b34 =>
  if b34 = true then
   (
   chk (true = true → 0 ≤ i19 ∧ i19 < (n7 : Int)) <|
   atP (adP s7) true fun a37 =>
   (st1 h (Ad.add a37 (Int.toNat i19 * 1)) (.bool false)).bind fun h_2 =>
   J53x25 M C s1 n1 true i6 s7 n7 s10 n10 i11 i12 s17 n17 i18 i19 h_2 Q
   )
  else
   (
   J53x25 M C s1 n1 b5 i6 s7 n7 s10 n10 i11 i12 s17 n17 i18 i19 h Q
   )
  )
 else
  (
  Q (.exit 2) (S53xe2 s1 n1 b5 s10 n10 i11 i12 h)
  )
 ) := by kernel_rfl
theorem L53x15xeq (s1 : SA) (n1 : Nat) (b5 : Bool) (i6 : Int) (s7 : SA) (n7 : Nat) (s10 : SA) (n10 : Nat) (i11 i12 : Int) (s17 : SA) (n17 : Nat) (i18 i19 : Int) (h : Heap) (Q : Kont R) : TEq (L53x15 mk0 C s1 n1 b5 i6 s7 n7 s10 n10 i11 i12 s17 n17 i18 i19 h Q) (L53x15xaux mk0 C s1 n1 b5 i6 s7 n7 s10 n10 i11 i12 s17 n17 i18 i19 h Q) := loop_eqn _ _ _ _ _ h Q (by kernel_rfl) (L53x15xaux mk0 C s1 n1 b5 i6 s7 n7 s10 n10 i11 i12 s17 n17 i18 i19 h Q)
theorem J53x25xaux (M : Mk) (C : Cal) (s1 : SA) (n1 : Nat) (b5 : Bool) (i6 : Int) (s7 : SA) (n7 : Nat) (s10 : SA) (n10 : Nat) (i11 i12 : Int) (s17 : SA) (n17 : Nat) (i18 i19 : Int) (h : Heap) (Q : Kont R) : (forceK tk (.any :: (vl s1 n1 :: (rep 3 (vb b5 :: (vi i6 :: (vl s7 n7 :: (.any :: .any :: (vl s10 n10 :: (vi i11 :: (vi i12 :: (rep 4 (vl s17 n17 :: (vi i18 :: (vi i19 :: (rep 21 []))))))))))))))) fun e => (blockQ 3 (seqQ (evalE M C k53x21) (seqQ (evalE M C k53x20) (roundQ M C k53x15 924898 7202 Q)))) .normal ⟨e, h⟩) = (
 letK (IntKind.wrap .i64 (i19 + 1)) fun i38 =>
 L53x15 M C s1 n1 b5 i6 s7 n7 s10 n10 i11 i12 s17 n17 i18 i38 h Q
 ) := by kernel_rfl
theorem J53x25xeq (C : Cal) (s1 : SA) (n1 : Nat) (b5 : Bool) (i6 : Int) (s7 : SA) (n7 : Nat) (s10 : SA) (n10 : Nat) (i11 i12 : Int) (s17 : SA) (n17 : Nat) (i18 i19 : Int) (h : Heap) (Q : Kont R) : TEq (J53x25 mk0 C s1 n1 b5 i6 s7 n7 s10 n10 i11 i12 s17 n17 i18 i19 h Q) (J53x25xaux mk0 C s1 n1 b5 i6 s7 n7 s10 n10 i11 i12 s17 n17 i18 i19 h Q) := join_eqn _ _ h (J53x25xaux mk0 C s1 n1 b5 i6 s7 n7 s10 n10 i11 i12 s17 n17 i18 i19 h Q)
theorem X53x5xe0 (b5 : Bool) (h : Heap) : Q53x5 M C (.exit 0) (S53xe0 b5 h) = (
 some ((.bool b5), h)
 ) := by kernel_rfl
theorem X53x15xe2 (s1 : SA) (n1 : Nat) (b5 : Bool) (s10 : SA) (n10 : Nat) (i11 i12 : Int) (h : Heap) (Q : Kont R) : Q53x15 M C Q (.exit 2) (S53xe2 s1 n1 b5 s10 n10 i11 i12 h) = (
 letK (IntKind.wrap .i64 (i12 + 1)) fun i39 =>
 L53x5 M C s1 n1 b5 s10 n10 i11 i39 h Q
 ) := by kernel_rfl
def k48x7 : AC := .exit 0
def k48x6 : AC := .mask 14351
def k48x10 : AC := .ops false [
 o 17 (.move (t 9)),
 o 18 (.move (t 2)),
 o 19 (.indexAddr 1 (t 17) (t 18)),
 u (.store 1 (t 19) (.c (.bool false)))]
def k48x9 : AC := .mask 14351
def k48x8 : AC := .ops false [
 o 20 (.bin .other .add (t 13) (c 1)),
 o 13 (.move (t 20))]
def k48x5 : AC := .seq (.seq (.block 1 (.seq (.ops false [
 o 15 (.indexAddr 1 (t 11) (t 13)),
 o 16 (.load (.cell .sl) (t 15)),
 o 9 (.move (t 16))]) k48x10)) k48x9) k48x8
def k48x4 : AC := .seq (.seq (.cond (.tmp 14)
 (.skip)
 (.seq (.mask 15) k48x7)) k48x6) k48x5
def k48x3 : AC := .seq (.ops false [
 o 14 (.bin .other .lss (t 13) (t 12))]) k48x4
def k48x2 : AC := .mask 15
def k48x1 : AC := .seq (.block 0 (.loop 14351 15 k48x3)) k48x2
def k48x14 : AC := .ret
def k48x13 : AC := .mask 15
def k48x12 : AC := .seq (.cond (.tmp 22)
 (.seq (.mask 0) k48x14)
 (.skip)) k48x13
def k48x17 : AC := .ops false [
 o 35 (.move (t 0)),
 o 36 (.move (t 1)),
 o 37 (.move (t 10)),
 o 38 (.indexAddr 1 (t 35) (t 36)),
 u (.store 1 (t 38) (t 37))]
def k48x16 : AC := .seq (.ops false [
 o 32 (.move (t 10)),
 o 33 (.move (t 2)),
 o 34 (.indexAddr 1 (t 32) (t 33)),
 u (.store 1 (t 34) (.c (.bool true)))]) k48x17
def k48x15 : AC := .seq (.ops false [
 o 29 (.move (t 10)),
 o 30 (.move (t 3)),
 o 31 (.copy 1 (t 29) (t 30))]) k48x16
def k48x11 : AC := .seq (.ops false [
 o 23 (.move (t 0)),
 o 24 (.move (t 1)),
 o 25 (.indexAddr 1 (t 23) (t 24)),
 o 26 (.load (.cell .sl) (t 25)),
 o 27 (.lenSl (t 26)),
 o 28 (.makeSl [(.bool false)] 1 (t 27) (t 27)),
 o 10 (.move (t 28))]) k48x15
def k48x0 : AC := .seq (.seq (.ops false [
 o 21 (.move (t 1)),
 o 22 (.bin .other .eql (t 21) (c 0))]) k48x12) k48x11
def c48 : AFn := ⟨39, [],
 .seq (.seq (.ops false [
 o 11 (.move (t 0)),
 o 12 (.lenSl (t 11)),
 o 13 (.move (c 0))]) k48x1) k48x0⟩
def S48xe0 (s0 : SA) (n0 : Nat) (i1 i2 : Int) (s3 : SA) (n3 : Nat) (h : Heap) : St := ⟨(vl s0 n0 :: (vi i1 :: (vi i2 :: (vl s3 n3 :: (rep 35 []))))), h⟩
noncomputable def Q48x3 (M : Mk) (C : Cal) : Kont (AV × Heap) := (blockQ 0 (seqQ (evalE M C k48x2) (seqQ (evalE M C k48x0) (endQ []))))
noncomputable def L48x3 (s0 : SA) (n0 : Nat) (i1 i2 : Int) (s3 : SA) (n3 : Nat) (s11 : SA) (n11 : Nat) (i12 i13 : Int) (h : Heap) (Q : Kont R) : Option R := loopE (evalE M C k48x3) 14351 15 ⟨(vl s0 n0 :: (vi i1 :: (vi i2 :: (vl s3 n3 :: (rep 7 (vl s11 n11 :: (vi i12 :: (vi i13 :: (rep 25 []))))))))), h⟩ Q
theorem r48 (s0 : SA) (n0 : Nat) (i1 i2 : Int) (s3 : SA) (n3 : Nat) (h : Heap) : runE M C c48 [(.sl s0 n0), (.int .i64 i1), (.int .i64 i2), (.sl s3 n3)] h = (
 L48x3 M C s0 n0 i1 i2 s3 n3 s0 n0 (n0 : Int) 0 h (Q48x3 M C)
 ) := by kernel_rfl
theorem cf48 : cFn Try.prog 48 = some c48 := by kernel_rfl
theorem e48 (s0 : SA) (n0 : Nat) (i1 i2 : Int) (s3 : SA) (n3 : Nat) (h : Heap) : TEq (E 48 [(.sl s0 n0), (.int .i64 i1), (.int .i64 i2), (.sl s3 n3)] h) (r48 mk0 E s0 n0 i1 i2 s3 n3 h) := (EV_eq (P := Try.prog) (T := T0) rfl cf48 _ h).trans (r48 mk0 E s0 n0 i1 i2 s3 n3 h)
theorem L48x3xaux (s0 : SA) (n0 : Nat) (i1 i2 : Int) (s3 : SA) (n3 : Nat) (s11 : SA) (n11 : Nat) (i12 i13 : Int) (h : Heap) (Q : Kont R) : (restrF 14351 ⟨(vl s0 n0 :: (vi i1 :: (vi i2 :: (vl s3 n3 :: (rep 7 (vl s11 n11 :: (vi i12 :: (vi i13 :: (rep 25 []))))))))), h⟩ fun σ => evalE M C k48x3 σ (roundQ M C k48x3 14351 15 Q)) = (
 letK (decide (i13 < i12)) fun b14 =>
 if b14 = true then
  (
  chk (true = true → 0 ≤ i13 ∧ i13 < (n11 : Int)) <|
  atP (adP s11) true fun a15 =>
  gL (ld1 h (Ad.add a15 (Int.toNat i13 * 1))) true fun s16 n16 =>
  chk (true = true → 0 ≤ i2 ∧ i2 < (n16 : Int)) <|
  atP (adP s16) true fun a19 =>
  (st1 h (Ad.add a19 (Int.toNat i2 * 1)) (.bool false)).bind fun h_2 =>
  letK (IntKind.wrap .i64 (i13 + 1)) fun i20 =>
  L48x3 M C s0 n0 i1 i2 s3 n3 s11 n11 i12 i20 h_2 Q
  )
 else
  (
  Q (.exit 0) (S48xe0 s0 n0 i1 i2 s3 n3 h)
  )
 ) := by kernel_rfl
theorem L48x3xeq (s0 : SA) (n0 : Nat) (i1 i2 : Int) (s3 : SA) (n3 : Nat) (s11 : SA) (n11 : Nat) (i12 i13 : Int) (h : Heap) (Q : Kont R) : TEq (L48x3 mk0 C s0 n0 i1 i2 s3 n3 s11 n11 i12 i13 h Q) (L48x3xaux mk0 C s0 n0 i1 i2 s3 n3 s11 n11 i12 i13 h Q) := loop_eqn _ _ _ _ _ h Q (by kernel_rfl) (L48x3xaux mk0 C s0 n0 i1 i2 s3 n3 s11 n11 i12 i13 h Q)
theorem X48x3xe0 (s0 : SA) (n0 : Nat) (i1 i2 : Int) (s3 : SA) (n3 : Nat) (h : Heap) : Q48x3 M C (.exit 0) (S48xe0 s0 n0 i1 i2 s3 n3 h) = (
 letK (decide (i1 = 0)) fun b22 =>
 if b22 = true then
  (
  some (.tup [], h)
  )
 else
  (
  chk (true = true → 0 ≤ i1 ∧ i1 < (n0 : Int)) <|
  atP (adP s0) true fun a25 =>
  gL (ld1 h (Ad.add a25 (Int.toNat i1 * 1))) true fun s26 n26 =>
  chk ((0 : Int) ≤ (n26 : Int) ∧ ((n26 : Int) : Int) ≤ (n26 : Int) ∧ (n26 : Int) * ((1 : Nat) : Int) ≤ 70368744177664) <|
  newK h (.cells (repl (Int.toNat (n26 : Int)) [(.bool false)]) (.grow 1) 0) fun h_2 =>
  letK (Int.toNat (n26 : Int)) fun n28 =>
  (ldSl h_2 s3 (min n3 n28 * 1)).bind fun y31 =>
  (cpyM h_2 (.pos ⟨List.length h, 0, 0⟩) (min n3 n28 * 1) y31).bind fun h_3 =>
  chk (true = true → 0 ≤ i2 ∧ i2 < (n28 : Int)) <|
  (st1 h_3 (Ad.add ⟨List.length h, 0, 0⟩ (Int.toNat i2 * 1)) (.bool true)).bind fun h_4 =>
  chk (true = true → 0 ≤ i1 ∧ i1 < (n0 : Int)) <|
  atP (adP s0) true fun a38 =>
  (st1 h_4 (Ad.add a38 (Int.toNat i1 * 1)) (.sl (.pos ⟨List.length h, 0, 0⟩) n28)).bind fun h_5 =>
  some (.tup [], h_5)
  )
 ) := by kernel_rfl
def k52x8 : AC := .exit 0
def k52x7 : AC := .mask 7171
def k52x16 : AC := .ret
def k52x15 : AC := .seq (.mask 64) k52x16
def k52x14 : AC := .mask 7171
def k52x13 : AC := .seq (.cond (.tmp 33)
 (.seq (.ops false [
 o 6 (.move (.c (.bool false)))]) k52x15)
  (.skip)) k52x14
def k52x12 : AC := .seq (.ops true [
 o 22 (.move (t 9)),
 o 23 (.bin .other .eql (t 22) (c 0)),
 o 24 (.move (t 23)),
 f 25 24 (.move (t 1)),
 f 26 24 (.move (t 9)),
 f 27 24 (.indexAddr 1 (t 25) (t 26)),
 f 28 24 (.load (.cell .sl) (t 27)),
 f 29 24 (.move (t 8)),
 f 30 24 (.indexAddr 1 (t 28) (t 29)),
 f 31 24 (.load (.cell .bool) (t 30)),
 f 32 24 (.un .not (t 31)),
 o 33 (.pick (t 24) (.c (.bool true)) (t 32))]) k52x13
def k52x11 : AC := .seq (.ops false [
 o 16 (.move (t 0)),
 o 17 (.nilCheck (t 16)),
 o 18 (.fieldAddr 4 (t 17)),
 o 19 (.load (.agg [.sl, .sl, (.int .i64)]) (t 18)),
 o 20 (.move (t 8)),
 o 21 (.call 49 [(t 19), (t 20)] [I] (.int .i64 0)),
 o 9 (.move (t 21))]) k52x12
def k52x10 : AC := .mask 7171
def k52x9 : AC := .ops false [
 o 34 (.bin .other .add (t 12) (c 1)),
 o 12 (.move (t 34))]
def k52x6 : AC := .seq (.seq (.block 1 (.seq (.ops false [
 o 14 (.indexAddr 1 (t 10) (t 12)),
 o 15 (.load I (t 14)),
 o 8 (.move (t 15))]) k52x11)) k52x10) k52x9
def k52x5 : AC := .seq (.seq (.cond (.tmp 13)
 (.skip)
 (.seq (.mask 0) k52x8)) k52x7) k52x6
def k52x4 : AC := .seq (.ops false [
 o 13 (.bin .other .lss (t 12) (t 11))]) k52x5
def k52x3 : AC := .mask 0
def k52x2 : AC := .seq (.block 0 (.loop 7171 0 k52x4)) k52x3
def k52x18 : AC := .ret
def k52x17 : AC := .seq (.mask 64) k52x18
def k52x1 : AC := .seq (.ops false [
 o 6 (.move (.c (.bool true)))]) k52x17
def k52x0 : AC := .seq (.seq (.ops false [
 o 10 (.move (t 2)),
 o 11 (.lenSl (t 10)),
 o 12 (.move (c 0))]) k52x2) k52x1
def c52 : AFn := ⟨35, [.tmp 6],
 .seq (.ops false [
 o 6 (.move (.c (.bool false)))]) k52x0⟩
def S52xr (b6 : Bool) (h : Heap) : St := ⟨(rep 6 (vb b6 :: (rep 28 []))), h⟩
def S52xe0 (h : Heap) : St := ⟨(rep 35 []), h⟩
noncomputable def Q52x4 (M : Mk) (C : Cal) : Kont (AV × Heap) := (blockQ 0 (seqQ (evalE M C k52x3) (seqQ (evalE M C k52x1) (endQ [.tmp 6]))))
noncomputable def L52x4 (p0 : Option Ad) (s1 : SA) (n1 : Nat) (s10 : SA) (n10 : Nat) (i11 i12 : Int) (h : Heap) (Q : Kont R) : Option R := loopE (evalE M C k52x4) 7171 0 ⟨(vp p0 :: (vl s1 n1 :: (rep 8 (vl s10 n10 :: (vi i11 :: (vi i12 :: (rep 22 []))))))), h⟩ Q
theorem r52 (p0 : Option Ad) (s1 : SA) (n1 : Nat) (s2 : SA) (n2 : Nat) (h : Heap) : runE M C c52 [(.ptr p0), (.sl s1 n1), (.sl s2 n2)] h = (
 L52x4 M C p0 s1 n1 s2 n2 (n2 : Int) 0 h (Q52x4 M C)
 ) := by kernel_rfl
theorem cf52 : cFn Try.prog 52 = some c52 := by kernel_rfl
theorem e52 (p0 : Option Ad) (s1 : SA) (n1 : Nat) (s2 : SA) (n2 : Nat) (h : Heap) : TEq (E 52 [(.ptr p0), (.sl s1 n1), (.sl s2 n2)] h) (r52 mk0 E p0 s1 n1 s2 n2 h) := (EV_eq (P := Try.prog) (T := T0) rfl cf52 _ h).trans (r52 mk0 E p0 s1 n1 s2 n2 h)
theorem L52x4xaux (p0 : Option Ad) (s1 : SA) (n1 : Nat) (s10 : SA) (n10 : Nat) (i11 i12 : Int) (h : Heap) (Q : Kont R) : (restrF 7171 ⟨(vp p0 :: (vl s1 n1 :: (rep 8 (vl s10 n10 :: (vi i11 :: (vi i12 :: (rep 22 []))))))), h⟩ fun σ => evalE M C k52x4 σ (roundQ M C k52x4 7171 0 Q)) = (
 letK (decide (i12 < i11)) fun b13 =>
 if b13 = true then
  (
  chk (true = true → 0 ≤ i12 ∧ i12 < (n10 : Int)) <|
  atP (adP s10) true fun a14 =>
  gI .i64 (ld1 h (Ad.add a14 (Int.toNat i12 * 1))) true fun i15 =>
  atP p0 true fun a17 =>
  gCells (ldN h (Ad.add a17 4) 3) true fun l19 =>
  gL (l19[0]?) true fun s19x0 n19x0 =>
  gL (l19[1]?) true fun s19x1 n19x1 =>
  gI .i64 (l19[2]?) true fun i19x2 =>
  (C 49 [(.agg [(.sl s19x0 n19x0), (.sl s19x1 n19x1), (.int .i64 i19x2)]), (.int .i64 i15)] h).bind fun r21 =>
  gI .i64 (some r21.1) true fun i21 =>
  letK (decide (i21 = 0)) fun b23 =>
  chk ((!b23) = true → 0 ≤ i21 ∧ i21 < (n1 : Int)) <|
  atP (adP s1) (!b23) fun a27 =>
  atP (some (Ad.add a27 (Int.toNat i21 * 1))) (!b23) fun a28 =>
  gL (ld1 r21.2 a28) (!b23) fun s28 n28 =>
  chk ((!b23) = true → 0 ≤ i15 ∧ i15 < (n28 : Int)) <|
  atP (adP s28) (!b23) fun a30 =>
  atP (some (Ad.add a30 (Int.toNat i15 * 1))) (!b23) fun a31 =>
  gB (ld1 r21.2 a31) (!b23) fun b31 =>
  letK (if b23 = true then true else (!b31)) fun b33 =>
  if b33 = true then
   (
   Q .ret (S52xr false r21.2)
   )
  else
   (
   letK (IntKind.wrap .i64 (i12 + 1)) fun i34 =>
   L52x4 M C p0 s1 n1 s10 n10 i11 i34 r21.2 Q
   )
  )
 else
  (
  Q (.exit 0) (S52xe0 h)
  )
 ) := by kernel_rfl
theorem L52x4xeq (p0 : Option Ad) (s1 : SA) (n1 : Nat) (s10 : SA) (n10 : Nat) (i11 i12 : Int) (h : Heap) (Q : Kont R) : TEq (L52x4 mk0 C p0 s1 n1 s10 n10 i11 i12 h Q) (L52x4xaux mk0 C p0 s1 n1 s10 n10 i11 i12 h Q) := loop_eqn _ _ _ _ _ h Q (by kernel_rfl) (L52x4xaux mk0 C p0 s1 n1 s10 n10 i11 i12 h Q)
theorem X52x4xr (b6 : Bool) (h : Heap) : Q52x4 M C .ret (S52xr b6 h) = (
 some ((.bool b6), h)
 ) := by kernel_rfl
theorem X52x4xe0 (h : Heap) : Q52x4 M C (.exit 0) (S52xe0 h) = (
 some ((.bool true), h)
 ) := by kernel_rfl
def k51x5 : AC := .ret
def k51x4 : AC := .seq (.mask 64) k51x5
def k51x3 : AC := .mask 35
def k51x2 : AC := .seq (.cond (.tmp 15)
 (.seq (.ops false [
 o 6 (.move (.c (.bool false)))]) k51x4)
  (.skip)) k51x3
def k51x15 : AC := .exit 0
def k51x14 : AC := .mask 163
def k51x13 : AC := .seq (.cond (.tmp 20)
 (.skip)
 (.seq (.mask 35) k51x15)) k51x14
def k51x17 : AC := .mask 163
def k51x16 : AC := .ops false [
 o 21 (.move (t 7)),
 o 22 (.bin .other .add (t 21) (c 1)),
 o 7 (.move (t 22))]
def k51x12 : AC := .seq (.seq (.block 1 (.ops false [
 o 23 (.move (t 1)),
 o 24 (.move (t 7)),
 o 25 (.indexAddr 1 (t 23) (t 24)),
 o 26 (.load (.cell .sl) (t 25)),
 u (.clear [(.bool false)] (t 26))])) k51x17) k51x16
def k51x11 : AC := .seq (.seq (.ops false [
 o 19 (.move (t 7)),
 o 20 (.bin .other .leq (t 19) (c 10))]) k51x13) k51x12
def k51x10 : AC := .mask 35
def k51x9 : AC := .seq (.block 0 (.loop 163 35 k51x11)) k51x10
def k51x8 : AC := .join 35
def k51x7 : AC := .seq (.cond (.tmp 18)
 (.seq (.ops false [
 o 7 (.move (c 1))]) k51x9)
  (.skip)) k51x8
def k51x24 : AC := .ret
def k51x23 : AC := .seq (.mask 64) k51x24
def k51x22 : AC := .mask 291
def k51x21 : AC := .seq (.cond (.tmp 30)
 (.seq (.ops false [
 o 6 (.move (.c (.bool true)))]) k51x23)
  (.skip)) k51x22
def k51x29 : AC := .ops false [
 o 50 (.move (t 9)),
 o 51 (.move (t 8)),
 o 52 (.indexAddr 1 (t 50) (t 51)),
 u (.store 1 (t 52) (.c (.bool false)))]
def k51x28 : AC := .join 771
def k51x27 : AC := .seq (.cond (.tmp 38)
 (.seq (.ops false [
 o 39 (.move (t 1)),
 o 40 (.move (t 0)),
 o 41 (.nilCheck (t 40)),
 o 42 (.fieldAddr 4 (t 41)),
 o 43 (.load (.agg [.sl, .sl, (.int .i64)]) (t 42)),
 o 44 (.fieldAddr 2 (t 5)),
 o 45 (.load I (t 44)),
 o 46 (.call 49 [(t 43), (t 45)] [I] (.int .i64 0)),
 o 47 (.indexAddr 1 (t 39) (t 46)),
 o 48 (.load (.cell .sl) (t 47)),
 o 49 (.call 80 [(t 48)] [(.cell .sl)] (.sl .nil 0)),
 o 9 (.move (t 49))]) k51x29)
  (.skip)) k51x28
def k51x33 : AC := .ret
def k51x32 : AC := .seq (.mask 64) k51x33
def k51x31 : AC := .seq (.ops false [
 o 6 (.move (.c (.bool true)))]) k51x32
def k51x26 : AC := .seq (.ops false [
 o 53 (.move (t 1)),
 o 54 (.move (t 0)),
 o 55 (.nilCheck (t 54)),
 o 56 (.fieldAddr 4 (t 55)),
 o 57 (.load (.agg [.sl, .sl, (.int .i64)]) (t 56)),
 o 58 (.move (t 8)),
 o 59 (.call 49 [(t 57), (t 58)] [I] (.int .i64 0)),
 o 60 (.move (t 8)),
 o 61 (.move (t 9)),
 o 62 (.call 48 [(t 53), (t 59), (t 60), (t 61)] [] .opq)]) k51x31
def k51x25 : AC := .seq (.seq (.ops true [
 o 31 (.fieldAddr 0 (t 5)),
 o 32 (.load I (t 31)),
 o 33 (.bin .other .eql (t 32) (c 100)),
 o 34 (.move (t 33)),
 g 35 34 (.fieldAddr 2 (t 5)),
 g 36 34 (.load I (t 35)),
 g 37 34 (.bin .other .neq (t 36) (c 0)),
 o 38 (.pick (t 34) (t 37) (.c (.bool false)))]) k51x27) k51x26
def k51x20 : AC := .seq (.ops false [
 o 9 (.move (.c (.sl .nil 0)))]) k51x25
def k51x19 : AC := .seq (.seq (.ops false [
 o 29 (.move (t 8)),
 o 30 (.bin .other .eql (t 29) (c 0))]) k51x21) k51x20
def k51x6 : AC := .seq (.ops false [
 o 27 (.load (.agg [(.int .i64), (.int .i64), (.int .i64), (.int .i64), (.int .i64), .sl]) (t 5)),
 o 28 (.call 30 [(t 27)] [I] (.int .i64 0)),
 o 8 (.move (t 28))]) k51x19
def k51x1 : AC := .seq (.seq (.ops false [
 o 16 (.fieldAddr 0 (t 5)),
 o 17 (.load I (t 16)),
 o 18 (.call 21 [(t 17)] [(.cell .bool)] (.bool false))]) k51x7) k51x6
def k51x0 : AC := .seq (.seq (.ops false [
 o 10 (.move (t 0)),
 o 11 (.move (t 1)),
 o 12 (.load (.agg [(.int .i64), (.int .i64), (.int .i64), (.int .i64), (.int .i64), .sl]) (t 5)),
 o 13 (.call 29 [(t 12)] [(.cell .sl)] (.sl .nil 0)),
 o 14 (.call 52 [(t 10), (t 11), (t 13)] [(.cell .bool)] (.bool false)),
 o 15 (.un .not (t 14))]) k51x2) k51x1
def c51 : AFn := ⟨63, [.tmp 6],
 .seq (.ops false [
 o 5 (.boxL (t 2)),
 o 6 (.move (.c (.bool false)))]) k51x0⟩
def S51xe0 (p0 : Option Ad) (s1 : SA) (n1 : Nat) (i5x0 i5x1 : Int) (i5x2 i5x3 i5x4 : Int) (s5x5 : SA) (n5x5 : Nat) (h : Heap) : St := ⟨(vp p0 :: (vl s1 n1 :: (rep 3 (.box [(.int .i64 i5x0), (.int .i64 i5x1), (.int .i64 i5x2), (.int .i64 i5x3), (.int .i64 i5x4), (.sl s5x5 n5x5)] :: (rep 57 []))))), h⟩
noncomputable def Q51x11 (M : Mk) (C : Cal) : Kont (AV × Heap) := (blockQ 0 (seqQ (evalE M C k51x10) (seqQ (evalE M C k51x8) (seqQ (evalE M C k51x6) (endQ [.tmp 6])))))
noncomputable def L51x11 (p0 : Option Ad) (s1 : SA) (n1 : Nat) (i5x0 i5x1 : Int) (i5x2 i5x3 i5x4 : Int) (s5x5 : SA) (n5x5 : Nat) (i7 : Int) (h : Heap) (Q : Kont R) : Option R := loopE (evalE M C k51x11) 163 35 ⟨(vp p0 :: (vl s1 n1 :: (rep 3 (.box [(.int .i64 i5x0), (.int .i64 i5x1), (.int .i64 i5x2), (.int .i64 i5x3), (.int .i64 i5x4), (.sl s5x5 n5x5)] :: (.any :: (vi i7 :: (rep 55 []))))))), h⟩ Q
noncomputable def J51x18 (M : Mk) (C : Cal) (p0 : Option Ad) (s1 : SA) (n1 : Nat) (i5x0 i5x1 : Int) (i5x2 i5x3 i5x4 : Int) (s5x5 : SA) (n5x5 : Nat) (h : Heap) : Res := M (AV × Heap) (seqQ (evalE M C k51x6) (endQ [.tmp 6])) (vp p0 :: (vl s1 n1 :: (rep 3 (.box [(.int .i64 i5x0), (.int .i64 i5x1), (.int .i64 i5x2), (.int .i64 i5x3), (.int .i64 i5x4), (.sl s5x5 n5x5)] :: (rep 57 []))))) h
noncomputable def J51x30 (M : Mk) (C : Cal) (p0 : Option Ad) (s1 : SA) (n1 : Nat) (i8 : Int) (s9 : SA) (n9 : Nat) (h : Heap) : Res := M (AV × Heap) (seqQ (evalE M C k51x26) (endQ [.tmp 6])) (vp p0 :: (vl s1 n1 :: (rep 6 (vi i8 :: (vl s9 n9 :: (rep 53 [])))))) h
theorem r51 (p0 : Option Ad) (s1 : SA) (n1 : Nat) (i2x0 i2x1 : Int) (i2x2 i2x3 i2x4 : Int) (s2x5 : SA) (n2x5 : Nat) (h : Heap) : runE M C c51 [(.ptr p0), (.sl s1 n1), (.agg [(.int .i64 i2x0), (.int .i64 i2x1), (.int .i64 i2x2), (.int .i64 i2x3), (.int .i64 i2x4), (.sl s2x5 n2x5)])] h = (
 (C 29 [(.agg [(.int .i64 i2x0), (.int .i64 i2x1), (.int .i64 i2x2), (.int .i64 i2x3), (.int .i64 i2x4), (.sl s2x5 n2x5)])] h).bind fun r13 =>
 gL (some r13.1) true fun s13 n13 =>
 (C 52 [(.ptr p0), (.sl s1 n1), (.sl s13 n13)] r13.2).bind fun r14 =>
 gB (some r14.1) true fun b14 =>
 if (!b14) = true then
  (
  some ((.bool false), r14.2)
  )
 else
  (
  (C 21 [(.int .i64 i2x0)] r14.2).bind fun r18 =>
  gB (some r18.1) true fun b18 =>
  if b18 = true then
   (
   L51x11 M C p0 s1 n1 i2x0 i2x1 i2x2 i2x3 i2x4 s2x5 n2x5 1 r18.2 (Q51x11 M C)
   )
  else
   (
   J51x18 M C p0 s1 n1 i2x0 i2x1 i2x2 i2x3 i2x4 s2x5 n2x5 r18.2
   )
  )
 ) := by kernel_rfl
theorem cf51 : cFn Try.prog 51 = some c51 := by kernel_rfl
theorem e51 (p0 : Option Ad) (s1 : SA) (n1 : Nat) (i2x0 i2x1 : Int) (i2x2 i2x3 i2x4 : Int) (s2x5 : SA) (n2x5 : Nat) (h : Heap) : TEq (E 51 [(.ptr p0), (.sl s1 n1), (.agg [(.int .i64 i2x0), (.int .i64 i2x1), (.int .i64 i2x2), (.int .i64 i2x3), (.int .i64 i2x4), (.sl s2x5 n2x5)])] h) (r51 mk0 E p0 s1 n1 i2x0 i2x1 i2x2 i2x3 i2x4 s2x5 n2x5 h) := (EV_eq (P := Try.prog) (T := T0) rfl cf51 _ h).trans (r51 mk0 E p0 s1 n1 i2x0 i2x1 i2x2 i2x3 i2x4 s2x5 n2x5 h)
theorem L51x11xaux (p0 : Option Ad) (s1 : SA) (n1 : Nat) (i5x0 i5x1 : Int) (i5x2 i5x3 i5x4 : Int) (s5x5 : SA) (n5x5 : Nat) (i7 : Int) (h : Heap) (Q : Kont R) : (restrF 163 ⟨(vp p0 :: (vl s1 n1 :: (rep 3 (.box [(.int .i64 i5x0), (.int .i64 i5x1), (.int .i64 i5x2), (.int .i64 i5x3), (.int .i64 i5x4), (.sl s5x5 n5x5)] :: (.any :: (vi i7 :: (rep 55 []))))))), h⟩ fun σ => evalE M C k51x11 σ (roundQ M C k51x11 163 35 Q)) = (
 letK (decide (i7 ≤ 10)) fun b20 =>
 if b20 = true then
  (
  chk (true = true → 0 ≤ i7 ∧ i7 < (n1 : Int)) <|
  atP (adP s1) true fun a25 =>
  gL (ld1 h (Ad.add a25 (Int.toNat i7 * 1))) true fun s26 n26 =>
  (clrM h s26 n26 [(.bool false)]).bind fun h_2 =>
  letK (IntKind.wrap .i64 (i7 + 1)) fun i22 =>
  L51x11 M C p0 s1 n1 i5x0 i5x1 i5x2 i5x3 i5x4 s5x5 n5x5 i22 h_2 Q
  )
 else
  (
  Q (.exit 0) (S51xe0 p0 s1 n1 i5x0 i5x1 i5x2 i5x3 i5x4 s5x5 n5x5 h)
  )
 ) := by kernel_rfl
theorem L51x11xeq (p0 : Option Ad) (s1 : SA) (n1 : Nat) (i5x0 i5x1 : Int) (i5x2 i5x3 i5x4 : Int) (s5x5 : SA) (n5x5 : Nat) (i7 : Int) (h : Heap) (Q : Kont R) : TEq (L51x11 mk0 C p0 s1 n1 i5x0 i5x1 i5x2 i5x3 i5x4 s5x5 n5x5 i7 h Q) (L51x11xaux mk0 C p0 s1 n1 i5x0 i5x1 i5x2 i5x3 i5x4 s5x5 n5x5 i7 h Q) := loop_eqn _ _ _ _ _ h Q (by kernel_rfl) (L51x11xaux mk0 C p0 s1 n1 i5x0 i5x1 i5x2 i5x3 i5x4 s5x5 n5x5 i7 h Q)
theorem J51x18xaux (M : Mk) (C : Cal) (p0 : Option Ad) (s1 : SA) (n1 : Nat) (i5x0 i5x1 : Int) (i5x2 i5x3 i5x4 : Int) (s5x5 : SA) (n5x5 : Nat) (h : Heap) : (forceK tk (vp p0 :: (vl s1 n1 :: (rep 3 (.box [(.int .i64 i5x0), (.int .i64 i5x1), (.int .i64 i5x2), (.int .i64 i5x3), (.int .i64 i5x4), (.sl s5x5 n5x5)] :: (rep 57 []))))) fun e => (seqQ (evalE M C k51x6) (endQ [.tmp 6])) .normal ⟨e, h⟩) = (
 (C 30 [(.agg [(.int .i64 i5x0), (.int .i64 i5x1), (.int .i64 i5x2), (.int .i64 i5x3), (.int .i64 i5x4), (.sl s5x5 n5x5)])] h).bind fun r28 =>
 gI .i64 (some r28.1) true fun i28 =>
 letK (decide (i28 = 0)) fun b30 =>
 if b30 = true then
  (
  some ((.bool true), r28.2)
  )
 else
  (
  letK (decide (i5x0 = 100)) fun b33 =>
  gI .i64 (some (.int .i64 i5x2)) b33 fun i36 =>
  letK (!decide (i36 = 0)) fun b37 =>
  letK (if b33 = true then b37 else false) fun b38 =>
  if b38 = true then
   (
   atP p0 true fun a41 =>
   gCells (ldN r28.2 (Ad.add a41 4) 3) true fun l43 =>
   gL (l43[0]?) true fun s43x0 n43x0 =>
   gL (l43[1]?) true fun s43x1 n43x1 =>
   gI .i64 (l43[2]?) true fun i43x2 =>
   (C 49 [(.agg [(.sl s43x0 n43x0), (.sl s43x1 n43x1), (.int .i64 i43x2)]), (.int .i64 i5x2)] r28.2).bind fun r46 =>
   gI .i64 (some r46.1) true fun i46 =>
   chk (true = true → 0 ≤ i46 ∧ i46 < (n1 : Int)) <|
   atP (adP s1) true fun a47 =>
   gL (ld1 r46.2 (Ad.add a47 (Int.toNat i46 * 1))) true fun s48 n48 =>
   (C 80 [(.sl s48 n48)] r46.2).bind fun r49 =>
   gL (some r49.1) true fun s49 n49 =>
   chk (true = true → 0 ≤ i28 ∧ i28 < (n49 : Int)) <|
   atP (adP s49) true fun a52 =>
   (st1 r49.2 (Ad.add a52 (Int.toNat i28 * 1)) (.bool false)).bind fun h_2 =>
   J51x30 M C p0 s1 n1 i28 s49 n49 h_2
   )
  else
   (
   J51x30 M C p0 s1 n1 i28 .nil 0 r28.2
   )
  )
 ) := by kernel_rfl
theorem J51x18xeq (C : Cal) (p0 : Option Ad) (s1 : SA) (n1 : Nat) (i5x0 i5x1 : Int) (i5x2 i5x3 i5x4 : Int) (s5x5 : SA) (n5x5 : Nat) (h : Heap) : TEq (J51x18 mk0 C p0 s1 n1 i5x0 i5x1 i5x2 i5x3 i5x4 s5x5 n5x5 h) (J51x18xaux mk0 C p0 s1 n1 i5x0 i5x1 i5x2 i5x3 i5x4 s5x5 n5x5 h) := join_eqn _ _ h (J51x18xaux mk0 C p0 s1 n1 i5x0 i5x1 i5x2 i5x3 i5x4 s5x5 n5x5 h)
theorem J51x30xaux (M : Mk) (C : Cal) (p0 : Option Ad) (s1 : SA) (n1 : Nat) (i8 : Int) (s9 : SA) (n9 : Nat) (h : Heap) : (forceK tk (vp p0 :: (vl s1 n1 :: (rep 6 (vi i8 :: (vl s9 n9 :: (rep 53 [])))))) fun e => (seqQ (evalE M C k51x26) (endQ [.tmp 6])) .normal ⟨e, h⟩) = (
 atP p0 true fun a55 =>
 gCells (ldN h (Ad.add a55 4) 3) true fun l57 =>
 gL (l57[0]?) true fun s57x0 n57x0 =>
 gL (l57[1]?) true fun s57x1 n57x1 =>
 gI .i64 (l57[2]?) true fun i57x2 =>
 (C 49 [(.agg [(.sl s57x0 n57x0), (.sl s57x1 n57x1), (.int .i64 i57x2)]), (.int .i64 i8)] h).bind fun r59 =>
 gI .i64 (some r59.1) true fun i59 =>
 (C 48 [(.sl s1 n1), (.int .i64 i59), (.int .i64 i8), (.sl s9 n9)] r59.2).bind fun r62 =>
 gT 0 r62.1 true fun u62 =>
 some ((.bool true), r62.2)
 ) := by kernel_rfl
theorem J51x30xeq (C : Cal) (p0 : Option Ad) (s1 : SA) (n1 : Nat) (i8 : Int) (s9 : SA) (n9 : Nat) (h : Heap) : TEq (J51x30 mk0 C p0 s1 n1 i8 s9 n9 h) (J51x30xaux mk0 C p0 s1 n1 i8 s9 n9 h) := join_eqn _ _ h (J51x30xaux mk0 C p0 s1 n1 i8 s9 n9 h)
theorem X51x11xe0 (p0 : Option Ad) (s1 : SA) (n1 : Nat) (i5x0 i5x1 : Int) (i5x2 i5x3 i5x4 : Int) (s5x5 : SA) (n5x5 : Nat) (h : Heap) : Q51x11 M C (.exit 0) (S51xe0 p0 s1 n1 i5x0 i5x1 i5x2 i5x3 i5x4 s5x5 n5x5 h) = (
 J51x18 M C p0 s1 n1 i5x0 i5x1 i5x2 i5x3 i5x4 s5x5 n5x5 h
 ) := by kernel_rfl
def k17x6 : AC := .ret
def k17x5 : AC := .seq (.mask 16) k17x6
def k17x4 : AC := .mask 12
def k17x3 : AC := .seq (.cond (.tmp 10)
 (.seq (.ops false [
 o 11 (.move (t 5)),
 o 4 (.move (t 11))]) k17x5)
  (.skip)) k17x4
def k17x2 : AC := .seq (.ops false [
 o 9 (.move (t 5)),
 o 10 (.bin .other .neq (t 9) (c 0))]) k17x3
def k17x11 : AC := .ret
def k17x10 : AC := .seq (.mask 16) k17x11
def k17x9 : AC := .mask 8
def k17x8 : AC := .seq (.cond (.tmp 25)
 (.seq (.ops false [
 o 4 (.move (c 3))]) k17x10)
  (.skip)) k17x9
def k17x16 : AC := .ret
def k17x15 : AC := .seq (.mask 16) k17x16
def k17x14 : AC := .mask 8
def k17x13 : AC := .seq (.cond (.tmp 33)
 (.seq (.ops false [
 o 4 (.move (c 2))]) k17x15)
  (.skip)) k17x14
def k17x24 : AC := .exit 0
def k17x23 : AC := .mask 206158430216
def k17x32 : AC := .ret
def k17x31 : AC := .seq (.mask 16) k17x32
def k17x30 : AC := .mask 206158430280
def k17x29 : AC := .seq (.cond (.tmp 79)
 (.seq (.ops false [
 o 4 (.move (c 4))]) k17x31)
  (.skip)) k17x30
def k17x36 : AC := .ret
def k17x35 : AC := .seq (.mask 16) k17x36
def k17x34 : AC := .mask 206158430216
def k17x33 : AC := .seq (.cond (.tmp 93)
 (.seq (.ops false [
 o 4 (.move (c 7))]) k17x35)
  (.skip)) k17x34
def k17x28 : AC := .seq (.ops true [
 o 80 (.fieldAddr 0 (t 3)),
 o 81 (.load (.cell .sl) (t 80)),
 o 82 (.move (t 6)),
 o 83 (.indexAddr 1 (t 81) (t 82)),
 o 84 (.load I (t 83)),
 o 85 (.bin .other .gtr (t 84) (c 0)),
 o 86 (.move (t 85)),
 g 87 86 (.fieldAddr 1 (t 3)),
 g 88 86 (.load (.cell .sl) (t 87)),
 g 89 86 (.move (t 6)),
 g 90 86 (.indexAddr 1 (t 88) (t 89)),
 g 91 86 (.load I (t 90)),
 g 92 86 (.bin .other .geq (t 91) (c 0)),
 o 93 (.pick (t 86) (t 92) (.c (.bool false)))]) k17x33
def k17x27 : AC := .seq (.seq (.ops true [
 o 40 (.fieldAddr 0 (t 3)),
 o 41 (.load (.cell .sl) (t 40)),
 o 42 (.move (t 6)),
 o 43 (.indexAddr 1 (t 41) (t 42)),
 o 44 (.load I (t 43)),
 o 45 (.bin .other .lss (t 44) (c (-1))),
 o 46 (.move (t 45)),
 f 47 46 (.fieldAddr 0 (t 3)),
 f 48 46 (.load (.cell .sl) (t 47)),
 f 49 46 (.move (t 6)),
 f 50 46 (.indexAddr 1 (t 48) (t 49)),
 f 51 46 (.load I (t 50)),
 f 52 46 (.bin .other .eql (t 51) (c 0)),
 o 53 (.pick (t 46) (.c (.bool true)) (t 52)),
 o 54 (.move (t 53)),
 f 55 54 (.fieldAddr 0 (t 3)),
 f 56 54 (.load (.cell .sl) (t 55)),
 f 57 54 (.move (t 6)),
 f 58 54 (.indexAddr 1 (t 56) (t 57)),
 f 59 54 (.load I (t 58)),
 f 60 54 (.bin .other .gtr (t 59) (c 10)),
 o 61 (.pick (t 54) (.c (.bool true)) (t 60)),
 o 62 (.move (t 61)),
 f 63 62 (.fieldAddr 1 (t 3)),
 f 64 62 (.load (.cell .sl) (t 63)),
 f 65 62 (.move (t 6)),
 f 66 62 (.indexAddr 1 (t 64) (t 65)),
 f 67 62 (.load I (t 66)),
 f 68 62 (.bin .other .lss (t 67) (c (-1))),
 o 69 (.pick (t 62) (.c (.bool true)) (t 68)),
 o 70 (.move (t 69)),
 f 71 70 (.fieldAddr 1 (t 3)),
 f 72 70 (.load (.cell .sl) (t 71)),
 f 73 70 (.move (t 6)),
 f 74 70 (.indexAddr 1 (t 72) (t 73)),
 f 75 70 (.load I (t 74)),
 f 76 70 (.fieldAddr 2 (t 3)),
 f 77 70 (.load I (t 76)),
 f 78 70 (.bin .other .geq (t 75) (t 77)),
 o 79 (.pick (t 70) (.c (.bool true)) (t 78))]) k17x29) k17x28
def k17x26 : AC := .mask 206158430216
def k17x25 : AC := .ops false [
 o 94 (.bin .other .add (t 37) (c 1)),
 o 37 (.move (t 94))]
def k17x22 : AC := .seq (.seq (.block 1 (.seq (.ops false [
 o 39 (.move (t 37)),
 o 6 (.move (t 39))]) k17x27)) k17x26) k17x25
def k17x21 : AC := .seq (.seq (.cond (.tmp 38)
 (.skip)
 (.seq (.mask 0) k17x24)) k17x23) k17x22
def k17x20 : AC := .seq (.ops false [
 o 38 (.bin .other .lss (t 37) (t 36))]) k17x21
def k17x19 : AC := .mask 0
def k17x18 : AC := .seq (.block 0 (.loop 206158430216 0 k17x20)) k17x19
def k17x38 : AC := .ret
def k17x37 : AC := .seq (.mask 16) k17x38
def k17x17 : AC := .seq (.ops false [
 o 4 (.move (c 0))]) k17x37
def k17x12 : AC := .seq (.seq (.ops false [
 o 34 (.fieldAddr 0 (t 3)),
 o 35 (.load (.cell .sl) (t 34)),
 o 36 (.lenSl (t 35)),
 o 37 (.move (c 0))]) k17x18) k17x17
def k17x7 : AC := .seq (.seq (.ops true [
 o 26 (.fieldAddr 2 (t 3)),
 o 27 (.load I (t 26)),
 o 28 (.bin .other .lss (t 27) (c 0)),
 o 29 (.move (t 28)),
 f 30 29 (.fieldAddr 2 (t 3)),
 f 31 29 (.load I (t 30)),
 f 32 29 (.bin .other .gtr (t 31) (c 8192)),
 o 33 (.pick (t 29) (.c (.bool true)) (t 32))]) k17x13) k17x12
def k17x1 : AC := .seq (.seq (.ops true [
 o 12 (.fieldAddr 0 (t 3)),
 o 13 (.load (.cell .sl) (t 12)),
 o 14 (.lenSl (t 13)),
 o 15 (.fieldAddr 2 (t 2)),
 o 16 (.load I (t 15)),
 o 17 (.bin .other .neq (t 14) (t 16)),
 o 18 (.move (t 17)),
 f 19 18 (.fieldAddr 1 (t 3)),
 f 20 18 (.load (.cell .sl) (t 19)),
 f 21 18 (.lenSl (t 20)),
 f 22 18 (.fieldAddr 2 (t 2)),
 f 23 18 (.load I (t 22)),
 f 24 18 (.bin .other .neq (t 21) (t 23)),
 o 25 (.pick (t 18) (.c (.bool true)) (t 24))]) k17x8) k17x7
def k17x0 : AC := .seq (.seq (.ops false [
 o 7 (.load (.agg [(.int .i64), .sl, (.int .i64), .sl]) (t 2)),
 o 8 (.call 26 [(t 7)] [I] (.int .i64 0)),
 o 5 (.move (t 8))]) k17x2) k17x1
def c17 : AFn := ⟨95, [.tmp 4],
 .seq (.ops false [
 o 2 (.boxL (t 0)),
 o 3 (.boxL (t 1)),
 o 4 (.move (c 0))]) k17x0⟩
def S17xr (i4 : Int) (h : Heap) : St := ⟨(rep 4 (vi i4 :: (rep 90 []))), h⟩
def S17xe0 (h : Heap) : St := ⟨(rep 95 []), h⟩
noncomputable def Q17x20 (M : Mk) (C : Cal) : Kont (AV × Heap) := (blockQ 0 (seqQ (evalE M C k17x19) (seqQ (evalE M C k17x17) (endQ [.tmp 4]))))
noncomputable def L17x20 (s3x0 : SA) (n3x0 : Nat) (s3x1 : SA) (n3x1 : Nat) (i3x2 i36 i37 : Int) (h : Heap) (Q : Kont R) : Option R := loopE (evalE M C k17x20) 206158430216 0 ⟨(rep 3 (.box [(.sl s3x0 n3x0), (.sl s3x1 n3x1), (.int .i64 i3x2)] :: (rep 32 (vi i36 :: (vi i37 :: (rep 57 [])))))), h⟩ Q
theorem r17 (i0x0 : Int) (s0x1 : SA) (n0x1 : Nat) (i0x2 : Int) (s0x3 : SA) (n0x3 : Nat) (s1x0 : SA) (n1x0 : Nat) (s1x1 : SA) (n1x1 : Nat) (i1x2 : Int) (h : Heap) : runE M C c17 [(.agg [(.int .i64 i0x0), (.sl s0x1 n0x1), (.int .i64 i0x2), (.sl s0x3 n0x3)]), (.agg [(.sl s1x0 n1x0), (.sl s1x1 n1x1), (.int .i64 i1x2)])] h = (
 (C 26 [(.agg [(.int .i64 i0x0), (.sl s0x1 n0x1), (.int .i64 i0x2), (.sl s0x3 n0x3)])] h).bind fun r8 =>
 gI .i64 (some r8.1) true fun i8 =>
 letK (!decide (i8 = 0)) fun b10 =>
 if b10 = true then
  (
  some ((.int .i64 i8), r8.2)
  )
 else
  (
  letK (!decide (((n1x0 : Int) : Int) = i0x2)) fun b17 =>
  gL (some (.sl s1x1 n1x1)) (!b17) fun s20 n20 =>
  gI .i64 (some (.int .i64 i0x2)) (!b17) fun i23 =>
  letK (!decide (((n20 : Int) : Int) = i23)) fun b24 =>
  letK (if b17 = true then true else b24) fun b25 =>
  if b25 = true then
   (
   some ((.int .i64 3), r8.2)
   )
  else
   (
   letK (decide (i1x2 < 0)) fun b28 =>
   gI .i64 (some (.int .i64 i1x2)) (!b28) fun i31 =>
   letK (decide ((8192 : Int) < i31)) fun b32 =>
   letK (if b28 = true then true else b32) fun b33 =>
   if b33 = true then
    (
    some ((.int .i64 2), r8.2)
    )
   else
    (
    L17x20 M C s1x0 n1x0 s1x1 n1x1 i1x2 (n1x0 : Int) 0 r8.2 (Q17x20 M C)
    )
   )
  )
 ) := by kernel_rfl
theorem cf17 : cFn Try.prog 17 = some c17 := by kernel_rfl
theorem e17 (i0x0 : Int) (s0x1 : SA) (n0x1 : Nat) (i0x2 : Int) (s0x3 : SA) (n0x3 : Nat) (s1x0 : SA) (n1x0 : Nat) (s1x1 : SA) (n1x1 : Nat) (i1x2 : Int) (h : Heap) : TEq (E 17 [(.agg [(.int .i64 i0x0), (.sl s0x1 n0x1), (.int .i64 i0x2), (.sl s0x3 n0x3)]), (.agg [(.sl s1x0 n1x0), (.sl s1x1 n1x1), (.int .i64 i1x2)])] h) (r17 mk0 E i0x0 s0x1 n0x1 i0x2 s0x3 n0x3 s1x0 n1x0 s1x1 n1x1 i1x2 h) := (EV_eq (P := Try.prog) (T := T0) rfl cf17 _ h).trans (r17 mk0 E i0x0 s0x1 n0x1 i0x2 s0x3 n0x3 s1x0 n1x0 s1x1 n1x1 i1x2 h)
theorem L17x20xaux (s3x0 : SA) (n3x0 : Nat) (s3x1 : SA) (n3x1 : Nat) (i3x2 i36 i37 : Int) (h : Heap) (Q : Kont R) : (restrF 206158430216 ⟨(rep 3 (.box [(.sl s3x0 n3x0), (.sl s3x1 n3x1), (.int .i64 i3x2)] :: (rep 32 (vi i36 :: (vi i37 :: (rep 57 [])))))), h⟩ fun σ => evalE M C k17x20 σ (roundQ M C k17x20 206158430216 0 Q)) = (
 letK (decide (i37 < i36)) fun b38 =>
 if b38 = true then
  (
  chk (true = true → 0 ≤ i37 ∧ i37 < (n3x0 : Int)) <|
  atP (adP s3x0) true fun a43 =>
  gI .i64 (ld1 h (Ad.add a43 (Int.toNat i37 * 1))) true fun i44 =>
  letK (decide (i44 < (-1))) fun b45 =>
  gL (some (.sl s3x0 n3x0)) (!b45) fun s48 n48 =>
  chk ((!b45) = true → 0 ≤ i37 ∧ i37 < (n48 : Int)) <|
  atP (adP s48) (!b45) fun a50 =>
  atP (some (Ad.add a50 (Int.toNat i37 * 1))) (!b45) fun a51 =>
  gI .i64 (ld1 h a51) (!b45) fun i51 =>
  letK (decide (i51 = 0)) fun b52 =>
  letK (if b45 = true then true else b52) fun b53 =>
  gL (some (.sl s3x0 n3x0)) (!b53) fun s56 n56 =>
  chk ((!b53) = true → 0 ≤ i37 ∧ i37 < (n56 : Int)) <|
  atP (adP s56) (!b53) fun a58 =>
  atP (some (Ad.add a58 (Int.toNat i37 * 1))) (!b53) fun a59 =>
  gI .i64 (ld1 h a59) (!b53) fun i59 =>
  letK (decide ((10 : Int) < i59)) fun b60 =>
  letK (if b53 = true then true else b60) fun b61 =>
  gL (some (.sl s3x1 n3x1)) (!b61) fun s64 n64 =>
  chk ((!b61) = true → 0 ≤ i37 ∧ i37 < (n64 : Int)) <|
  atP (adP s64) (!b61) fun a66 =>
  atP (some (Ad.add a66 (Int.toNat i37 * 1))) (!b61) fun a67 =>
  gI .i64 (ld1 h a67) (!b61) fun i67 =>
  letK (decide (i67 < (-1))) fun b68 =>
  letK (if b61 = true then true else b68) fun b69 =>
  gL (some (.sl s3x1 n3x1)) (!b69) fun s72 n72 =>
  chk ((!b69) = true → 0 ≤ i37 ∧ i37 < (n72 : Int)) <|
  atP (adP s72) (!b69) fun a74 =>
  atP (some (Ad.add a74 (Int.toNat i37 * 1))) (!b69) fun a75 =>
  gI .i64 (ld1 h a75) (!b69) fun i75 =>
  gI .i64 (some (.int .i64 i3x2)) (!b69) fun i77 =>
  letK (decide (i77 ≤ i75)) fun b78 =>
  letK (if b69 = true then true else b78) fun b79 =>
  if b79 = true then
   (
   Q .ret (S17xr 4 h)
   )
  else
   (
   chk (true = true → 0 ≤ i37 ∧ i37 < (n3x0 : Int)) <|
   atP (adP s3x0) true fun a83 =>
   gI .i64 (ld1 h (Ad.add a83 (Int.toNat i37 * 1))) true fun i84 =>
   letK (decide ((0 : Int) < i84)) fun b85 =>
   gL (some (.sl s3x1 n3x1)) b85 fun s88 n88 =>
   chk (b85 = true → 0 ≤ i37 ∧ i37 < (n88 : Int)) <|
   atP (adP s88) b85 fun a90 =>
   atP (some (Ad.add a90 (Int.toNat i37 * 1))) b85 fun a91 =>
   gI .i64 (ld1 h a91) b85 fun i91 =>
   letK (decide (0 ≤ i91)) fun b92 =>
   letK (if b85 = true then b92 else false) fun b93 =>
   if b93 = true then
    (
    Q .ret (S17xr 7 h)
    )
   else
    (
    letK (IntKind.wrap .i64 (i37 + 1)) fun i94 =>
    L17x20 M C s3x0 n3x0 s3x1 n3x1 i3x2 i36 i94 h Q
    )
   )
  )
 else
  (
  Q (.exit 0) (S17xe0 h)
  )
 ) := by kernel_rfl
theorem L17x20xeq (s3x0 : SA) (n3x0 : Nat) (s3x1 : SA) (n3x1 : Nat) (i3x2 i36 i37 : Int) (h : Heap) (Q : Kont R) : TEq (L17x20 mk0 C s3x0 n3x0 s3x1 n3x1 i3x2 i36 i37 h Q) (L17x20xaux mk0 C s3x0 n3x0 s3x1 n3x1 i3x2 i36 i37 h Q) := loop_eqn _ _ _ _ _ h Q (by kernel_rfl) (L17x20xaux mk0 C s3x0 n3x0 s3x1 n3x1 i3x2 i36 i37 h Q)
theorem X17x20xr (i4 : Int) (h : Heap) : Q17x20 M C .ret (S17xr i4 h) = (
 some ((.int .i64 i4), h)
 ) := by kernel_rfl
theorem X17x20xe0 (h : Heap) : Q17x20 M C (.exit 0) (S17xe0 h) = (
 some ((.int .i64 0), h)
 ) := by kernel_rfl
def k16x6 : AC := .ret
def k16x5 : AC := .seq (.mask 16) k16x6
def k16x4 : AC := .mask 12
def k16x3 : AC := .seq (.cond (.tmp 22)
 (.seq (.ops false [
 o 23 (.move (t 5)),
 o 4 (.move (t 23))]) k16x5)
  (.skip)) k16x4
def k16x2 : AC := .seq (.ops false [
 o 21 (.move (t 5)),
 o 22 (.bin .other .neq (t 21) (c 0))]) k16x3
def k16x18 : AC := .exit 0
def k16x17 : AC := .mask 30786325578060
def k16x21 : AC := .ops false [
 o 48 (.move (t 8)),
 o 49 (.indexAddr 1 (t 48) (c 0)),
 o 50 (.load (.cell .sl) (t 49)),
 o 51 (.load (.agg [.sl, .sl, (.int .i64)]) (t 3)),
 o 52 (.move (t 10)),
 o 54 (.move (t 10)),
  ⟨(some 53), .call 49 [(.tmp 51), (.tmp 52)] [(.cell (.int .i64))] (.int .i64 0), none, [.load 1 49 none]⟩,
 o 55 (.call 48 [(t 50), (t 53), (t 54), (.c (.sl .nil 0))] [] .opq)]
def k16x20 : AC := .mask 30786325578060
def k16x19 : AC := .ops false [
 o 56 (.bin .other .add (t 44) (c 1)),
 o 44 (.move (t 56))]
def k16x16 : AC := .seq (.seq (.block 1 (.seq (.ops false [
 o 46 (.indexAddr 1 (t 42) (t 44)),
 o 47 (.load I (t 46)),
 o 10 (.move (t 47))]) k16x21)) k16x20) k16x19
def k16x15 : AC := .seq (.seq (.cond (.tmp 45)
 (.skip)
 (.seq (.mask 324) k16x18)) k16x17) k16x16
def k16x14 : AC := .seq (.ops false [
 o 45 (.bin .other .lss (t 44) (t 43))]) k16x15
def k16x13 : AC := .mask 324
def k16x12 : AC := .seq (.block 0 (.loop 30786325578060 324 k16x14)) k16x13
def k16x29 : AC := .exit 2
def k16x28 : AC := .mask 2372
def k16x27 : AC := .seq (.cond (.tmp 60)
 (.skip)
 (.seq (.mask 0) k16x29)) k16x28
def k16x41 : AC := .exit 4
def k16x40 : AC := .mask 33849922949209616891787588
def k16x48 : AC := .ret
def k16x47 : AC := .seq (.mask 16) k16x48
def k16x46 : AC := .mask 33849922949209616891787588
def k16x45 : AC := .seq (.cond (.tmp 92)
 (.seq (.ops false [
 o 4 (.move (c 14))]) k16x47)
  (.skip)) k16x46
def k16x44 : AC := .seq (.ops false [
 o 88 (.move (t 6)),
 o 89 (.move (t 13)),
 o 90 (.load (.agg [(.int .i64), (.int .i64), (.int .i64), (.int .i64), (.int .i64), .sl]) (t 15)),
 o 91 (.call 51 [(t 88), (t 89), (t 90)] [(.cell .bool)] (.bool false)),
 o 92 (.un .not (t 91))]) k16x45
def k16x43 : AC := .mask 33849922949209616891787588
def k16x42 : AC := .ops false [
 o 93 (.bin .other .add (t 84) (c 1)),
 o 84 (.move (t 93))]
def k16x39 : AC := .seq (.seq (.block 5 (.seq (.ops false [
 o 86 (.indexAddr 6 (t 82) (t 84)),
 o 87 (.load (.agg [(.int .i64), (.int .i64), (.int .i64), (.int .i64), (.int .i64), .sl]) (t 86)),
 o 15 (.allocL [(.int .i64 0), (.int .i64 0), (.int .i64 0), (.int .i64 0), (.int .i64 0), (.sl .nil 0)]),
 u (.store 6 (t 15) (t 87))]) k16x44)) k16x43) k16x42
def k16x38 : AC := .seq (.seq (.cond (.tmp 85)
 (.skip)
 (.seq (.mask 14660) k16x41)) k16x40) k16x39
def k16x37 : AC := .seq (.ops false [
 o 85 (.bin .other .lss (t 84) (t 83))]) k16x38
def k16x36 : AC := .mask 14660
def k16x35 : AC := .seq (.block 4 (.loop 33849922949209616891787588 14660 k16x37)) k16x36
def k16x53 : AC := .ret
def k16x52 : AC := .seq (.mask 16) k16x53
def k16x51 : AC := .mask 14660
def k16x50 : AC := .seq (.cond (.tmp 104)
 (.seq (.ops false [
 o 4 (.move (c 14))]) k16x52)
  (.skip)) k16x51
def k16x60 : AC := .exit 6
def k16x59 : AC := .mask 18173039004871896699856737152280900
def k16x70 : AC := .exit 7
def k16x69 : AC := .mask 18173039004871896699856737152411972
def k16x68 : AC := .seq (.cond (.tmp 128)
 (.seq (.mask 18173039004871896699856737152280900) k16x70)
 (.skip)) k16x69
def k16x67 : AC := .join 18173039004871896699856737152411972
def k16x66 : AC := .seq (.cond (.tmp 117)
 (.ops false [
 o 123 (.move (t 8)),
 o 124 (.move (t 17)),
 o 125 (.move (t 13)),
 o 126 (.call 50 [(t 125)] [(.cell .sl)] (.sl .nil 0)),
 o 127 (.indexAddr 1 (t 123) (t 124)),
 u (.store 1 (t 127) (t 126))])
  (.seq (.ops false [
 o 129 (.move (t 8)),
 o 130 (.move (t 17)),
 o 131 (.indexAddr 1 (t 129) (t 130)),
 o 132 (.load (.cell .sl) (t 131)),
 o 133 (.move (t 13)),
 o 134 (.call 53 [(t 132), (t 133)] [(.cell .bool)] (.bool false)),
 o 135 (.un .not (t 134)),
 o 128 (.move (t 135))]) k16x68)) k16x67
def k16x65 : AC := .mask 18173039004871896699856737152411972
def k16x64 : AC := .ops false [
 o 136 (.move (t 11)),
 o 137 (.move (t 17)),
 o 138 (.buildSl [(.int .i64 0)] 1 [(0, (t 137))]),
 o 139 (.append [(.int .i64 0)] 1 8 (t 136) (t 138)),
 o 11 (.move (t 139))]
def k16x63 : AC := .seq (.seq (.block 8 (.seq (.ops false [
 o 118 (.move (t 8)),
 o 119 (.move (t 17)),
 o 120 (.indexAddr 1 (t 118) (t 119)),
 o 121 (.load (.cell .sl) (t 120)),
 o 122 (.bin .sl .eql (t 121) (.c (.sl .nil 0))),
 o 117 (.move (t 122))]) k16x66)) k16x65) k16x64
def k16x62 : AC := .join 18173039004871896699856737152280900
def k16x61 : AC := .ops false [
 o 140 (.bin .other .add (t 113) (c 1)),
 o 113 (.move (t 140))]
def k16x58 : AC := .seq (.seq (.block 7 (.seq (.ops false [
 o 115 (.indexAddr 1 (t 111) (t 113)),
 o 116 (.load I (t 115)),
 o 17 (.move (t 116))]) k16x63)) k16x62) k16x61
def k16x57 : AC := .seq (.seq (.cond (.tmp 114)
 (.skip)
 (.seq (.mask 2372) k16x60)) k16x59) k16x58
def k16x56 : AC := .seq (.ops false [
 o 114 (.bin .other .lss (t 113) (t 112))]) k16x57
def k16x55 : AC := .mask 2372
def k16x54 : AC := .seq (.block 6 (.loop 18173039004871896699856737152280900 2372 k16x56)) k16x55
def k16x49 : AC := .seq (.ops false [
 o 105 (.fieldAddr 3 (t 2)),
 o 106 (.load (.cell .sl) (t 105)),
 o 107 (.move (t 12)),
 o 108 (.indexAddr 7 (t 106) (t 107)),
 o 109 (.fieldAddr 1 (t 108)),
 o 110 (.fieldAddr 5 (t 109)),
 o 111 (.load (.cell .sl) (t 110)),
 o 112 (.lenSl (t 111)),
 o 113 (.move (c 0))]) k16x54
def k16x34 : AC := .seq (.seq (.ops false [
 o 94 (.move (t 6)),
 o 95 (.move (t 13)),
 o 96 (.fieldAddr 3 (t 2)),
 o 97 (.load (.cell .sl) (t 96)),
 o 98 (.move (t 12)),
 o 99 (.indexAddr 7 (t 97) (t 98)),
 o 100 (.fieldAddr 1 (t 99)),
 o 101 (.load (.agg [(.int .i64), (.int .i64), (.int .i64), (.int .i64), (.int .i64), .sl]) (t 100)),
 o 102 (.call 31 [(t 101)] [(.cell .sl)] (.sl .nil 0)),
 o 103 (.call 52 [(t 94), (t 95), (t 102)] [(.cell .bool)] (.bool false)),
 o 104 (.un .not (t 103))]) k16x50) k16x49
def k16x33 : AC := .seq (.seq (.ops false [
 o 77 (.fieldAddr 3 (t 2)),
 o 78 (.load (.cell .sl) (t 77)),
 o 79 (.move (t 12)),
 o 80 (.indexAddr 7 (t 78) (t 79)),
 o 81 (.fieldAddr 0 (t 80)),
 o 82 (.load (.cell .sl) (t 81)),
 o 83 (.lenSl (t 82)),
 o 84 (.move (c 0))]) k16x35) k16x34
def k16x32 : AC := .seq (.ops false [
 o 72 (.move (t 8)),
 o 73 (.move (t 12)),
 o 74 (.indexAddr 1 (t 72) (t 73)),
 o 75 (.load (.cell .sl) (t 74)),
 o 76 (.call 50 [(t 75)] [(.cell .sl)] (.sl .nil 0)),
 o 13 (.move (t 76))]) k16x33
def k16x31 : AC := .seq (.ops false [
 o 67 (.move (t 11)),
 o 68 (.move (t 11)),
 o 69 (.lenSl (t 68)),
 o 70 (.bin .other .sub (t 69) (c 1)),
 o 71 (.slice 1 (t 67) none (some (t 70))),
 o 11 (.move (t 71))]) k16x32
def k16x30 : AC := .mask 2372
def k16x26 : AC := .seq (.block 3 (.seq (.ops false [
 o 61 (.move (t 11)),
 o 62 (.move (t 11)),
 o 63 (.lenSl (t 62)),
 o 64 (.bin .other .sub (t 63) (c 1)),
 o 65 (.indexAddr 1 (t 61) (t 64)),
 o 66 (.load I (t 65)),
 o 12 (.move (t 66))]) k16x31)) k16x30
def k16x25 : AC := .seq (.seq (.ops false [
 o 58 (.move (t 11)),
 o 59 (.lenSl (t 58)),
 o 60 (.bin .other .gtr (t 59) (c 0))]) k16x27) k16x26
def k16x24 : AC := .mask 0
def k16x74 : AC := .ret
def k16x73 : AC := .seq (.mask 16) k16x74
def k16x23 : AC := .seq (.ops false [
 o 4 (.move (c 0))]) k16x73
def k16x22 : AC := .seq (.seq (.block 2 (.loop 2372 0 k16x25)) k16x24) k16x23
def k16x11 : AC := .seq (.ops false [
 o 57 (.buildSl [(.int .i64 0)] 1 [(0, (c 0))]),
 o 11 (.move (t 57))]) k16x22
def k16x10 : AC := .seq (.seq (.ops false [
 o 41 (.fieldAddr 1 (t 2)),
 o 42 (.load (.cell .sl) (t 41)),
 o 43 (.lenSl (t 42)),
 o 44 (.move (c 0))]) k16x12) k16x11
def k16x9 : AC := .seq (.ops false [
 o 35 (.move (t 8)),
 o 36 (.move (t 7)),
 o 37 (.fieldAddr 2 (t 2)),
 o 38 (.load I (t 37)),
 o 39 (.call 47 [(t 36), (t 38)] [(.cell .sl)] (.sl .nil 0)),
 o 40 (.indexAddr 1 (t 35) (c 0)),
 u (.store 1 (t 40) (t 39))]) k16x10
def k16x8 : AC := .seq (.ops false [
 o 31 (.fieldAddr 3 (t 2)),
 o 32 (.load (.cell .sl) (t 31)),
 o 33 (.lenSl (t 32)),
 o 34 (.makeSl [(.sl .nil 0)] 24 (t 33) (t 33)),
 o 8 (.move (t 34))]) k16x9
def k16x7 : AC := .seq (.ops false [
 o 28 (.fieldAddr 2 (t 3)),
 o 29 (.load I (t 28)),
 o 30 (.bin .other .add (c 11) (t 29)),
 o 7 (.move (t 30))]) k16x8
def k16x1 : AC := .seq (.ops false [
 o 24 (.load (.agg [(.int .i64), .sl, (.int .i64), .sl]) (t 2)),
 o 25 (.load (.agg [.sl, .sl, (.int .i64)]) (t 3)),
 o 26 (.build [(.int .i64 0), (.sl .nil 0), (.int .i64 0), (.sl .nil 0), (.sl .nil 0), (.sl .nil 0), (.int .i64 0)] [(0, 4, (t 24)), (4, 3, (t 25))]),
 o 27 (.boxH (t 26)),
 o 6 (.move (t 27))]) k16x7
def k16x0 : AC := .seq (.seq (.ops false [
 o 18 (.load (.agg [(.int .i64), .sl, (.int .i64), .sl]) (t 2)),
 o 19 (.load (.agg [.sl, .sl, (.int .i64)]) (t 3)),
 o 20 (.call 17 [(t 18), (t 19)] [I] (.int .i64 0)),
 o 5 (.move (t 20))]) k16x2) k16x1
def c16 : AFn := ⟨141, [.tmp 4],
 .seq (.ops false [
 o 2 (.boxL (t 0)),
 o 3 (.boxL (t 1)),
 o 4 (.move (c 0))]) k16x0⟩
def S16xe0 (i2x0 : Int) (s2x1 : SA) (n2x1 : Nat) (i2x2 : Int) (s2x3 : SA) (n2x3 : Nat) (p6 : Option Ad) (s8 : SA) (n8 : Nat) (h : Heap) : St := ⟨(.any :: .any :: (.box [(.int .i64 i2x0), (.sl s2x1 n2x1), (.int .i64 i2x2), (.sl s2x3 n2x3)] :: (rep 3 (vp p6 :: (.any :: (vl s8 n8 :: (rep 132 []))))))), h⟩
def S16xe2 (h : Heap) : St := ⟨(rep 141 []), h⟩
def S16xr (i4 : Int) (h : Heap) : St := ⟨(rep 4 (vi i4 :: (rep 136 []))), h⟩
def S16xe4 (i2x0 : Int) (s2x1 : SA) (n2x1 : Nat) (i2x2 : Int) (s2x3 : SA) (n2x3 : Nat) (p6 : Option Ad) (s8 : SA) (n8 : Nat) (s11 : SA) (n11 : Nat) (i12 : Int) (s13 : SA) (n13 : Nat) (h : Heap) : St := ⟨(.any :: .any :: (.box [(.int .i64 i2x0), (.sl s2x1 n2x1), (.int .i64 i2x2), (.sl s2x3 n2x3)] :: (rep 3 (vp p6 :: (.any :: (vl s8 n8 :: (.any :: .any :: (vl s11 n11 :: (vi i12 :: (vl s13 n13 :: (rep 127 []))))))))))), h⟩
def S16xe6 (i2x0 : Int) (s2x1 : SA) (n2x1 : Nat) (i2x2 : Int) (s2x3 : SA) (n2x3 : Nat) (p6 : Option Ad) (s8 : SA) (n8 : Nat) (s11 : SA) (n11 : Nat) (h : Heap) : St := ⟨(.any :: .any :: (.box [(.int .i64 i2x0), (.sl s2x1 n2x1), (.int .i64 i2x2), (.sl s2x3 n2x3)] :: (rep 3 (vp p6 :: (.any :: (vl s8 n8 :: (.any :: .any :: (vl s11 n11 :: (rep 129 []))))))))), h⟩
noncomputable def Q16x14 (M : Mk) (C : Cal) : Kont (AV × Heap) := (blockQ 0 (seqQ (evalE M C k16x13) (seqQ (evalE M C k16x11) (endQ [.tmp 4]))))
noncomputable def L16x14 (i2x0 : Int) (s2x1 : SA) (n2x1 : Nat) (i2x2 : Int) (s2x3 : SA) (n2x3 : Nat) (s3x0 : SA) (n3x0 : Nat) (s3x1 : SA) (n3x1 : Nat) (i3x2 : Int) (p6 : Option Ad) (s8 : SA) (n8 : Nat) (s42 : SA) (n42 : Nat) (i43 i44 : Int) (h : Heap) (Q : Kont R) : Option R := loopE (evalE M C k16x14) 30786325578060 324 ⟨(.any :: .any :: (.box [(.int .i64 i2x0), (.sl s2x1 n2x1), (.int .i64 i2x2), (.sl s2x3 n2x3)] :: (.box [(.sl s3x0 n3x0), (.sl s3x1 n3x1), (.int .i64 i3x2)] :: (.any :: .any :: (vp p6 :: (.any :: (vl s8 n8 :: (rep 33 (vl s42 n42 :: (vi i43 :: (vi i44 :: (rep 96 [])))))))))))), h⟩ Q
noncomputable def Q16x25 (M : Mk) (C : Cal) : Kont (AV × Heap) := (blockQ 2 (seqQ (evalE M C k16x24) (seqQ (evalE M C k16x23) (endQ [.tmp 4]))))
noncomputable def L16x25 (i2x0 : Int) (s2x1 : SA) (n2x1 : Nat) (i2x2 : Int) (s2x3 : SA) (n2x3 : Nat) (p6 : Option Ad) (s8 : SA) (n8 : Nat) (s11 : SA) (n11 : Nat) (h : Heap) (Q : Kont R) : Option R := loopE (evalE M C k16x25) 2372 0 ⟨(.any :: .any :: (.box [(.int .i64 i2x0), (.sl s2x1 n2x1), (.int .i64 i2x2), (.sl s2x3 n2x3)] :: (rep 3 (vp p6 :: (.any :: (vl s8 n8 :: (.any :: .any :: (vl s11 n11 :: (rep 129 []))))))))), h⟩ Q
noncomputable def Q16x37 (M : Mk) (C : Cal) (Q : Kont R) : Kont R := (blockQ 4 (seqQ (evalE M C k16x36) (seqQ (evalE M C k16x34) (blockQ 3 (seqQ (evalE M C k16x30) (roundQ M C k16x25 2372 0 Q))))))
noncomputable def L16x37 (i2x0 : Int) (s2x1 : SA) (n2x1 : Nat) (i2x2 : Int) (s2x3 : SA) (n2x3 : Nat) (p6 : Option Ad) (s8 : SA) (n8 : Nat) (s11 : SA) (n11 : Nat) (i12 : Int) (s13 : SA) (n13 : Nat) (s82 : SA) (n82 : Nat) (i83 i84 : Int) (h : Heap) (Q : Kont R) : Option R := loopE (evalE M C k16x37) 33849922949209616891787588 14660 ⟨(.any :: .any :: (.box [(.int .i64 i2x0), (.sl s2x1 n2x1), (.int .i64 i2x2), (.sl s2x3 n2x3)] :: (rep 3 (vp p6 :: (.any :: (vl s8 n8 :: (.any :: .any :: (vl s11 n11 :: (vi i12 :: (vl s13 n13 :: (rep 68 (vl s82 n82 :: (vi i83 :: (vi i84 :: (rep 56 []))))))))))))))), h⟩ Q
noncomputable def Q16x56 (M : Mk) (C : Cal) (Q : Kont R) : Kont R := (blockQ 6 (seqQ (evalE M C k16x55) (blockQ 3 (seqQ (evalE M C k16x30) (roundQ M C k16x25 2372 0 Q)))))
noncomputable def L16x56 (i2x0 : Int) (s2x1 : SA) (n2x1 : Nat) (i2x2 : Int) (s2x3 : SA) (n2x3 : Nat) (p6 : Option Ad) (s8 : SA) (n8 : Nat) (s11 : SA) (n11 : Nat) (s13 : SA) (n13 : Nat) (s111 : SA) (n111 : Nat) (i112 i113 : Int) (h : Heap) (Q : Kont R) : Option R := loopE (evalE M C k16x56) 18173039004871896699856737152280900 2372 ⟨(.any :: .any :: (.box [(.int .i64 i2x0), (.sl s2x1 n2x1), (.int .i64 i2x2), (.sl s2x3 n2x3)] :: (rep 3 (vp p6 :: (.any :: (vl s8 n8 :: (.any :: .any :: (vl s11 n11 :: (.any :: (vl s13 n13 :: (rep 97 (vl s111 n111 :: (vi i112 :: (vi i113 :: (rep 27 []))))))))))))))), h⟩ Q
noncomputable def J16x71 (M : Mk) (C : Cal) (i2x0 : Int) (s2x1 : SA) (n2x1 : Nat) (i2x2 : Int) (s2x3 : SA) (n2x3 : Nat) (p6 : Option Ad) (s8 : SA) (n8 : Nat) (s11 : SA) (n11 : Nat) (s13 : SA) (n13 : Nat) (i17 : Int) (s111 : SA) (n111 : Nat) (i112 i113 : Int) (h : Heap) (Q : Kont R) : Option R := M R (blockQ 8 (seqQ (evalE M C k16x65) (seqQ (evalE M C k16x64) (blockQ 7 (seqQ (evalE M C k16x62) (seqQ (evalE M C k16x61) (roundQ M C k16x56 18173039004871896699856737152280900 2372 Q))))))) (.any :: .any :: (.box [(.int .i64 i2x0), (.sl s2x1 n2x1), (.int .i64 i2x2), (.sl s2x3 n2x3)] :: (rep 3 (vp p6 :: (.any :: (vl s8 n8 :: (.any :: .any :: (vl s11 n11 :: (.any :: (vl s13 n13 :: (rep 3 (vi i17 :: (rep 93 (vl s111 n111 :: (vi i112 :: (vi i113 :: (rep 27 []))))))))))))))))) h
noncomputable def J16x72 (M : Mk) (C : Cal) (i2x0 : Int) (s2x1 : SA) (n2x1 : Nat) (i2x2 : Int) (s2x3 : SA) (n2x3 : Nat) (p6 : Option Ad) (s8 : SA) (n8 : Nat) (s11 : SA) (n11 : Nat) (s13 : SA) (n13 : Nat) (s111 : SA) (n111 : Nat) (i112 i113 : Int) (h : Heap) (Q : Kont R) : Option R := M R (seqQ (evalE M C k16x61) (roundQ M C k16x56 18173039004871896699856737152280900 2372 Q)) (.any :: .any :: (.box [(.int .i64 i2x0), (.sl s2x1 n2x1), (.int .i64 i2x2), (.sl s2x3 n2x3)] :: (rep 3 (vp p6 :: (.any :: (vl s8 n8 :: (.any :: .any :: (vl s11 n11 :: (.any :: (vl s13 n13 :: (rep 97 (vl s111 n111 :: (vi i112 :: (vi i113 :: (rep 27 []))))))))))))))) h
theorem r16 (i0x0 : Int) (s0x1 : SA) (n0x1 : Nat) (i0x2 : Int) (s0x3 : SA) (n0x3 : Nat) (s1x0 : SA) (n1x0 : Nat) (s1x1 : SA) (n1x1 : Nat) (i1x2 : Int) (h : Heap) : runE M C c16 [(.agg [(.int .i64 i0x0), (.sl s0x1 n0x1), (.int .i64 i0x2), (.sl s0x3 n0x3)]), (.agg [(.sl s1x0 n1x0), (.sl s1x1 n1x1), (.int .i64 i1x2)])] h = (
 (C 17 [(.agg [(.int .i64 i0x0), (.sl s0x1 n0x1), (.int .i64 i0x2), (.sl s0x3 n0x3)]), (.agg [(.sl s1x0 n1x0), (.sl s1x1 n1x1), (.int .i64 i1x2)])] h).bind fun r20 =>
 gI .i64 (some r20.1) true fun i20 =>
 letK (!decide (i20 = 0)) fun b22 =>
 if b22 = true then
  (
  some ((.int .i64 i20), r20.2)
  )
 else
  (
  newK r20.2 (.cells [(.int .i64 i0x0), (.sl s0x1 n0x1), (.int .i64 i0x2), (.sl s0x3 n0x3), (.sl s1x0 n1x0), (.sl s1x1 n1x1), (.int .i64 i1x2)] .fix 0) fun h_2 =>
  letK (IntKind.wrap .i64 (11 + i1x2)) fun i30 =>
  chk ((0 : Int) ≤ (n0x3 : Int) ∧ ((n0x3 : Int) : Int) ≤ (n0x3 : Int) ∧ (n0x3 : Int) * ((24 : Nat) : Int) ≤ 70368744177664) <|
  newK h_2 (.cells (repl (Int.toNat (n0x3 : Int)) [(.sl .nil 0)]) (.grow 1) 0) fun h_3 =>
  letK (Int.toNat (n0x3 : Int)) fun n34 =>
  (C 47 [(.int .i64 i30), (.int .i64 i0x2)] h_3).bind fun r39 =>
  gL (some r39.1) true fun s39 n39 =>
  chk (true = true → (0 : Int) ≤ 0 ∧ (0 : Int) < (n34 : Int)) <|
  (st1 r39.2 (Ad.add ⟨List.length h_2, 0, 0⟩ (Int.toNat 0 * 1)) (.sl s39 n39)).bind fun h_4 =>
  L16x14 M C i0x0 s0x1 n0x1 i0x2 s0x3 n0x3 s1x0 n1x0 s1x1 n1x1 i1x2 (some ⟨List.length r20.2, 0, 0⟩) (.pos ⟨List.length h_2, 0, 0⟩) n34 s0x1 n0x1 (n0x1 : Int) 0 h_4 (Q16x14 M C)
  )
 ) := by kernel_rfl
theorem cf16 : cFn Try.prog 16 = some c16 := by kernel_rfl
theorem e16 (i0x0 : Int) (s0x1 : SA) (n0x1 : Nat) (i0x2 : Int) (s0x3 : SA) (n0x3 : Nat) (s1x0 : SA) (n1x0 : Nat) (s1x1 : SA) (n1x1 : Nat) (i1x2 : Int) (h : Heap) : TEq (E 16 [(.agg [(.int .i64 i0x0), (.sl s0x1 n0x1), (.int .i64 i0x2), (.sl s0x3 n0x3)]), (.agg [(.sl s1x0 n1x0), (.sl s1x1 n1x1), (.int .i64 i1x2)])] h) (r16 mk0 E i0x0 s0x1 n0x1 i0x2 s0x3 n0x3 s1x0 n1x0 s1x1 n1x1 i1x2 h) := (EV_eq (P := Try.prog) (T := T0) rfl cf16 _ h).trans (r16 mk0 E i0x0 s0x1 n0x1 i0x2 s0x3 n0x3 s1x0 n1x0 s1x1 n1x1 i1x2 h)
theorem L16x14xaux (i2x0 : Int) (s2x1 : SA) (n2x1 : Nat) (i2x2 : Int) (s2x3 : SA) (n2x3 : Nat) (s3x0 : SA) (n3x0 : Nat) (s3x1 : SA) (n3x1 : Nat) (i3x2 : Int) (p6 : Option Ad) (s8 : SA) (n8 : Nat) (s42 : SA) (n42 : Nat) (i43 i44 : Int) (h : Heap) (Q : Kont R) : (restrF 30786325578060 ⟨(.any :: .any :: (.box [(.int .i64 i2x0), (.sl s2x1 n2x1), (.int .i64 i2x2), (.sl s2x3 n2x3)] :: (.box [(.sl s3x0 n3x0), (.sl s3x1 n3x1), (.int .i64 i3x2)] :: (.any :: .any :: (vp p6 :: (.any :: (vl s8 n8 :: (rep 33 (vl s42 n42 :: (vi i43 :: (vi i44 :: (rep 96 [])))))))))))), h⟩ fun σ => evalE M C k16x14 σ (roundQ M C k16x14 30786325578060 324 Q)) = (
 letK (decide (i44 < i43)) fun b45 =>
 if b45 = true then
  (
  chk (true = true → 0 ≤ i44 ∧ i44 < (n42 : Int)) <|
  atP (adP s42) true fun a46 =>
  gI .i64 (ld1 h (Ad.add a46 (Int.toNat i44 * 1))) true fun i47 =>
  chk (true = true → (0 : Int) ≤ 0 ∧ (0 : Int) < (n8 : Int)) <|
  atP (adP s8) true fun a49 =>
  gL (ld1 h (Ad.add a49 (Int.toNat 0 * 1))) true fun s50 n50 =>
  (C 49 [(.agg [(.sl s3x0 n3x0), (.sl s3x1 n3x1), (.int .i64 i3x2)]), (.int .i64 i47)] h).bind fun r53 =>
  gI .i64 (some r53.1) true fun i53 =>
  chkC (true = true → ldN r53.2 (Ad.add a49 (Int.toNat 0 * 1)) 1 = ldN h (Ad.add a49 (Int.toNat 0 * 1)) 1) <|
  (C 48 [(.sl s50 n50), (.int .i64 i53), (.int .i64 i47), (.sl .nil 0)] r53.2).bind fun r55 =>
  gT 0 r55.1 true fun u55 =>
  letK (IntKind.wrap .i64 (i44 + 1)) fun i56 =>
  L16x14 M C i2x0 s2x1 n2x1 i2x2 s2x3 n2x3 s3x0 n3x0 s3x1 n3x1 i3x2 p6 s8 n8 s42 n42 i43 i56 r55.2 Q
  )
 else
  (
  Q (.exit 0) (S16xe0 i2x0 s2x1 n2x1 i2x2 s2x3 n2x3 p6 s8 n8 h)
  )
 ) := by kernel_rfl
theorem L16x14xeq (i2x0 : Int) (s2x1 : SA) (n2x1 : Nat) (i2x2 : Int) (s2x3 : SA) (n2x3 : Nat) (s3x0 : SA) (n3x0 : Nat) (s3x1 : SA) (n3x1 : Nat) (i3x2 : Int) (p6 : Option Ad) (s8 : SA) (n8 : Nat) (s42 : SA) (n42 : Nat) (i43 i44 : Int) (h : Heap) (Q : Kont R) : TEq (L16x14 mk0 C i2x0 s2x1 n2x1 i2x2 s2x3 n2x3 s3x0 n3x0 s3x1 n3x1 i3x2 p6 s8 n8 s42 n42 i43 i44 h Q) (L16x14xaux mk0 C i2x0 s2x1 n2x1 i2x2 s2x3 n2x3 s3x0 n3x0 s3x1 n3x1 i3x2 p6 s8 n8 s42 n42 i43 i44 h Q) := loop_eqn _ _ _ _ _ h Q (by kernel_rfl) (L16x14xaux mk0 C i2x0 s2x1 n2x1 i2x2 s2x3 n2x3 s3x0 n3x0 s3x1 n3x1 i3x2 p6 s8 n8 s42 n42 i43 i44 h Q)
theorem X16x14xe0 (i2x0 : Int) (s2x1 : SA) (n2x1 : Nat) (i2x2 : Int) (s2x3 : SA) (n2x3 : Nat) (p6 : Option Ad) (s8 : SA) (n8 : Nat) (h : Heap) : Q16x14 M C (.exit 0) (S16xe0 i2x0 s2x1 n2x1 i2x2 s2x3 n2x3 p6 s8 n8 h) = (
 newK h (.cells [(.int .i64 0)] (.grow 1) 0) fun h_2 =>
 L16x25 M C i2x0 s2x1 n2x1 i2x2 s2x3 n2x3 p6 s8 n8 (.pos ⟨List.length h, 0, 0⟩) 1 h_2 (Q16x25 M C)
 ) := by kernel_rfl
theorem L16x25xaux (i2x0 : Int) (s2x1 : SA) (n2x1 : Nat) (i2x2 : Int) (s2x3 : SA) (n2x3 : Nat) (p6 : Option Ad) (s8 : SA) (n8 : Nat) (s11 : SA) (n11 : Nat) (h : Heap) (Q : Kont R) : (restrF 2372 ⟨(.any :: .any :: (.box [(.int .i64 i2x0), (.sl s2x1 n2x1), (.int .i64 i2x2), (.sl s2x3 n2x3)] :: (rep 3 (vp p6 :: (.any :: (vl s8 n8 :: (.any :: .any :: (vl s11 n11 :: (rep 129 []))))))))), h⟩ fun σ => evalE M C k16x25 σ (roundQ M C k16x25 2372 0 Q)) = (
 letK (decide ((0 : Int) < (n11 : Int))) fun b60 =>
 if b60 = true then
  (
  letK (IntKind.wrap .i64 ((n11 : Int) - 1)) fun i64 =>
  chk (true = true → 0 ≤ i64 ∧ i64 < (n11 : Int)) <|
  atP (adP s11) true fun a65 =>
  gI .i64 (ld1 h (Ad.add a65 (Int.toNat i64 * 1))) true fun i66 =>
  letK (IntKind.wrap .i64 ((n11 : Int) - 1)) fun i70 =>
  chkC (true = true → 0 ≤ i70 ∧ hiOk h s11 n11 1 i70) <|
  letK (Int.toNat i70) fun n71 =>
  chk (true = true → 0 ≤ i66 ∧ i66 < (n8 : Int)) <|
  atP (adP s8) true fun a74 =>
  gL (ld1 h (Ad.add a74 (Int.toNat i66 * 1))) true fun s75 n75 =>
  (C 50 [(.sl s75 n75)] h).bind fun r76 =>
  gL (some r76.1) true fun s76 n76 =>
  chk (true = true → 0 ≤ i66 ∧ i66 < (n2x3 : Int)) <|
  atP (adP s2x3) true fun a80 =>
  gL (ld1 r76.2 (Ad.add (Ad.add a80 (Int.toNat i66 * 7)) 0)) true fun s82 n82 =>
  L16x37 M C i2x0 s2x1 n2x1 i2x2 s2x3 n2x3 p6 s8 n8 s11 n71 i66 s76 n76 s82 n82 (n82 : Int) 0 r76.2 (Q16x37 M C Q)
  )
 else
  (
  Q (.exit 2) (S16xe2 h)
  )
 ) := by kernel_rfl
theorem L16x25xeq (i2x0 : Int) (s2x1 : SA) (n2x1 : Nat) (i2x2 : Int) (s2x3 : SA) (n2x3 : Nat) (p6 : Option Ad) (s8 : SA) (n8 : Nat) (s11 : SA) (n11 : Nat) (h : Heap) (Q : Kont R) : TEq (L16x25 mk0 C i2x0 s2x1 n2x1 i2x2 s2x3 n2x3 p6 s8 n8 s11 n11 h Q) (L16x25xaux mk0 C i2x0 s2x1 n2x1 i2x2 s2x3 n2x3 p6 s8 n8 s11 n11 h Q) := loop_eqn _ _ _ _ _ h Q (by kernel_rfl) (L16x25xaux mk0 C i2x0 s2x1 n2x1 i2x2 s2x3 n2x3 p6 s8 n8 s11 n11 h Q)
theorem L16x37xaux (i2x0 : Int) (s2x1 : SA) (n2x1 : Nat) (i2x2 : Int) (s2x3 : SA) (n2x3 : Nat) (p6 : Option Ad) (s8 : SA) (n8 : Nat) (s11 : SA) (n11 : Nat) (i12 : Int) (s13 : SA) (n13 : Nat) (s82 : SA) (n82 : Nat) (i83 i84 : Int) (h : Heap) (Q : Kont R) : (restrF 33849922949209616891787588 ⟨(.any :: .any :: (.box [(.int .i64 i2x0), (.sl s2x1 n2x1), (.int .i64 i2x2), (.sl s2x3 n2x3)] :: (rep 3 (vp p6 :: (.any :: (vl s8 n8 :: (.any :: .any :: (vl s11 n11 :: (vi i12 :: (vl s13 n13 :: (rep 68 (vl s82 n82 :: (vi i83 :: (vi i84 :: (rep 56 []))))))))))))))), h⟩ fun σ => evalE M C k16x37 σ (roundQ M C k16x37 33849922949209616891787588 14660 Q)) = (
 letK (decide (i84 < i83)) fun b85 =>
 if b85 = true then
  (
  chk (true = true → 0 ≤ i84 ∧ i84 < (n82 : Int)) <|
  atP (adP s82) true fun a86 =>
  gCells (ldN h (Ad.add a86 (Int.toNat i84 * 6)) 6) true fun l87 =>
  gI .i64 (l87[0]?) true fun i87x0 =>
  gI .i64 (l87[1]?) true fun i87x1 =>
  gI .i64 (l87[2]?) true fun i87x2 =>
  gI .i64 (l87[3]?) true fun i87x3 =>
  gI .i64 (l87[4]?) true fun i87x4 =>
  gL (l87[5]?) true fun s87x5 n87x5 =>
  (C 51 [(.ptr p6), (.sl s13 n13), (.agg [(.int .i64 i87x0), (.int .i64 i87x1), (.int .i64 i87x2), (.int .i64 i87x3), (.int .i64 i87x4), (.sl s87x5 n87x5)])] h).bind fun r91 =>
  gB (some r91.1) true fun b91 =>
  if (!b91) = true then
   (
   Q .ret (S16xr 14 r91.2)
   )
  else
   (
   letK (IntKind.wrap .i64 (i84 + 1)) fun i93 =>
   L16x37 M C i2x0 s2x1 n2x1 i2x2 s2x3 n2x3 p6 s8 n8 s11 n11 i12 s13 n13 s82 n82 i83 i93 r91.2 Q
   )
  )
 else
  (
  Q (.exit 4) (S16xe4 i2x0 s2x1 n2x1 i2x2 s2x3 n2x3 p6 s8 n8 s11 n11 i12 s13 n13 h)
  )
 ) := by kernel_rfl
theorem L16x37xeq (i2x0 : Int) (s2x1 : SA) (n2x1 : Nat) (i2x2 : Int) (s2x3 : SA) (n2x3 : Nat) (p6 : Option Ad) (s8 : SA) (n8 : Nat) (s11 : SA) (n11 : Nat) (i12 : Int) (s13 : SA) (n13 : Nat) (s82 : SA) (n82 : Nat) (i83 i84 : Int) (h : Heap) (Q : Kont R) : TEq (L16x37 mk0 C i2x0 s2x1 n2x1 i2x2 s2x3 n2x3 p6 s8 n8 s11 n11 i12 s13 n13 s82 n82 i83 i84 h Q) (L16x37xaux mk0 C i2x0 s2x1 n2x1 i2x2 s2x3 n2x3 p6 s8 n8 s11 n11 i12 s13 n13 s82 n82 i83 i84 h Q) := loop_eqn _ _ _ _ _ h Q (by kernel_rfl) (L16x37xaux mk0 C i2x0 s2x1 n2x1 i2x2 s2x3 n2x3 p6 s8 n8 s11 n11 i12 s13 n13 s82 n82 i83 i84 h Q)
theorem X16x25xe2 (h : Heap) : Q16x25 M C (.exit 2) (S16xe2 h) = (
 some ((.int .i64 0), h)
 ) := by kernel_rfl
theorem X16x37xr (i4 : Int) (h : Heap) (Q : Kont R) : Q16x37 M C Q .ret (S16xr i4 h) = (
 Q .ret (S16xr i4 h)
 ) := by kernel_rfl
theorem X16x25xr (i4 : Int) (h : Heap) : Q16x25 M C .ret (S16xr i4 h) = (
 some ((.int .i64 i4), h)
 ) := by kernel_rfl
theorem X16x37xe4 (i2x0 : Int) (s2x1 : SA) (n2x1 : Nat) (i2x2 : Int) (s2x3 : SA) (n2x3 : Nat) (p6 : Option Ad) (s8 : SA) (n8 : Nat) (s11 : SA) (n11 : Nat) (i12 : Int) (s13 : SA) (n13 : Nat) (h : Heap) (Q : Kont R) : Q16x37 M C Q (.exit 4) (S16xe4 i2x0 s2x1 n2x1 i2x2 s2x3 n2x3 p6 s8 n8 s11 n11 i12 s13 n13 h) = (
 chk (true = true → 0 ≤ i12 ∧ i12 < (n2x3 : Int)) <|
 atP (adP s2x3) true fun a99 =>
 gCells (ldN h (Ad.add (Ad.add a99 (Int.toNat i12 * 7)) 1) 6) true fun l101 =>
 gI .i64 (l101[0]?) true fun i101x0 =>
 gI .i64 (l101[1]?) true fun i101x1 =>
 gI .i64 (l101[2]?) true fun i101x2 =>
 gI .i64 (l101[3]?) true fun i101x3 =>
 gI .i64 (l101[4]?) true fun i101x4 =>
 gL (l101[5]?) true fun s101x5 n101x5 =>
 (C 31 [(.agg [(.int .i64 i101x0), (.int .i64 i101x1), (.int .i64 i101x2), (.int .i64 i101x3), (.int .i64 i101x4), (.sl s101x5 n101x5)])] h).bind fun r102 =>
 gL (some r102.1) true fun s102 n102 =>
 (C 52 [(.ptr p6), (.sl s13 n13), (.sl s102 n102)] r102.2).bind fun r103 =>
 gB (some r103.1) true fun b103 =>
 if (!b103) = true then
  (
  Q .ret (S16xr 14 r103.2)
  )
 else
  (
  chk (true = true → 0 ≤ i12 ∧ i12 < (n2x3 : Int)) <|
  atP (adP s2x3) true fun a108 =>
  gL (ld1 r103.2 (Ad.add (Ad.add (Ad.add a108 (Int.toNat i12 * 7)) 1) 5)) true fun s111 n111 =>
  L16x56 M C i2x0 s2x1 n2x1 i2x2 s2x3 n2x3 p6 s8 n8 s11 n11 s13 n13 s111 n111 (n111 : Int) 0 r103.2 (Q16x56 M C Q)
  )
 ) := by kernel_rfl
theorem L16x56xaux (i2x0 : Int) (s2x1 : SA) (n2x1 : Nat) (i2x2 : Int) (s2x3 : SA) (n2x3 : Nat) (p6 : Option Ad) (s8 : SA) (n8 : Nat) (s11 : SA) (n11 : Nat) (s13 : SA) (n13 : Nat) (s111 : SA) (n111 : Nat) (i112 i113 : Int) (h : Heap) (Q : Kont R) : (restrF 18173039004871896699856737152280900 ⟨(.any :: .any :: (.box [(.int .i64 i2x0), (.sl s2x1 n2x1), (.int .i64 i2x2), (.sl s2x3 n2x3)] :: (rep 3 (vp p6 :: (.any :: (vl s8 n8 :: (.any :: .any :: (vl s11 n11 :: (.any :: (vl s13 n13 :: (rep 97 (vl s111 n111 :: (vi i112 :: (vi i113 :: (rep 27 []))))))))))))))), h⟩ fun σ => evalE M C k16x56 σ (roundQ M C k16x56 18173039004871896699856737152280900 2372 Q)) = (
 letK (decide (i113 < i112)) fun b114 =>
 if b114 = true then
  (
  chk (true = true → 0 ≤ i113 ∧ i113 < (n111 : Int)) <|
  atP (adP s111) true fun a115 =>
  gI .i64 (ld1 h (Ad.add a115 (Int.toNat i113 * 1))) true fun i116 =>
  chk (true = true → 0 ≤ i116 ∧ i116 < (n8 : Int)) <|
  atP (adP s8) true fun a120 =>
  gL (ld1 h (Ad.add a120 (Int.toNat i116 * 1))) true fun s121 n121 =>
  letK (SA.isNil s121) fun b122 =>
  if b122 = true then
   (
   (C 50 [(.sl s13 n13)] h).bind fun r126 =>
   gL (some r126.1) true fun s126 n126 =>
   chk (true = true → 0 ≤ i116 ∧ i116 < (n8 : Int)) <|
   atP (adP s8) true fun a127 =>
   (st1 r126.2 (Ad.add a127 (Int.toNat i116 * 1)) (.sl s126 n126)).bind fun h_2 =>
   J16x71 M C i2x0 s2x1 n2x1 i2x2 s2x3 n2x3 p6 s8 n8 s11 n11 s13 n13 i116 s111 n111 i112 i113 h_2 Q
   )
  else
   (
   chk (true = true → 0 ≤ i116 ∧ i116 < (n8 : Int)) <|
   atP (adP s8) true fun a131 =>
   gL (ld1 h (Ad.add a131 (Int.toNat i116 * 1))) true fun s132 n132 =>
   (C 53 [(.sl s132 n132), (.sl s13 n13)] h).bind fun r134 =>
   gB (some r134.1) true fun b134 =>
   if (!b134) = true then
    (
    J16x72 M C i2x0 s2x1 n2x1 i2x2 s2x3 n2x3 p6 s8 n8 s11 n11 s13 n13 s111 n111 i112 i113 r134.2 Q
    )
   else
    (
    J16x71 M C i2x0 s2x1 n2x1 i2x2 s2x3 n2x3 p6 s8 n8 s11 n11 s13 n13 i116 s111 n111 i112 i113 r134.2 Q
    )
   )
  )
 else
  (
  Q (.exit 6) (S16xe6 i2x0 s2x1 n2x1 i2x2 s2x3 n2x3 p6 s8 n8 s11 n11 h)
  )
 ) := by kernel_rfl
theorem L16x56xeq (i2x0 : Int) (s2x1 : SA) (n2x1 : Nat) (i2x2 : Int) (s2x3 : SA) (n2x3 : Nat) (p6 : Option Ad) (s8 : SA) (n8 : Nat) (s11 : SA) (n11 : Nat) (s13 : SA) (n13 : Nat) (s111 : SA) (n111 : Nat) (i112 i113 : Int) (h : Heap) (Q : Kont R) : TEq (L16x56 mk0 C i2x0 s2x1 n2x1 i2x2 s2x3 n2x3 p6 s8 n8 s11 n11 s13 n13 s111 n111 i112 i113 h Q) (L16x56xaux mk0 C i2x0 s2x1 n2x1 i2x2 s2x3 n2x3 p6 s8 n8 s11 n11 s13 n13 s111 n111 i112 i113 h Q) := loop_eqn _ _ _ _ _ h Q (by kernel_rfl) (L16x56xaux mk0 C i2x0 s2x1 n2x1 i2x2 s2x3 n2x3 p6 s8 n8 s11 n11 s13 n13 s111 n111 i112 i113 h Q)
theorem J16x71xaux (M : Mk) (C : Cal) (i2x0 : Int) (s2x1 : SA) (n2x1 : Nat) (i2x2 : Int) (s2x3 : SA) (n2x3 : Nat) (p6 : Option Ad) (s8 : SA) (n8 : Nat) (s11 : SA) (n11 : Nat) (s13 : SA) (n13 : Nat) (i17 : Int) (s111 : SA) (n111 : Nat) (i112 i113 : Int) (h : Heap) (Q : Kont R) : (forceK tk (.any :: .any :: (.box [(.int .i64 i2x0), (.sl s2x1 n2x1), (.int .i64 i2x2), (.sl s2x3 n2x3)] :: (rep 3 (vp p6 :: (.any :: (vl s8 n8 :: (.any :: .any :: (vl s11 n11 :: (.any :: (vl s13 n13 :: (rep 3 (vi i17 :: (rep 93 (vl s111 n111 :: (vi i112 :: (vi i113 :: (rep 27 []))))))))))))))))) fun e => (blockQ 8 (seqQ (evalE M C k16x65) (seqQ (evalE M C k16x64) (blockQ 7 (seqQ (evalE M C k16x62) (seqQ (evalE M C k16x61) (roundQ M C k16x56 18173039004871896699856737152280900 2372 Q))))))) .normal ⟨e, h⟩) = (
 newK h (.cells [(.int .i64 i17)] (.grow 1) 0) fun h_2 =>
 (ldSl h_2 (.pos ⟨List.length h, 0, 0⟩) (1 * 1)).bind fun y139 =>
 (apnd h_2 (.sl s11 n11) 1 8 y139 1).bind fun r139 =>
 gL (some r139.1) true fun s139 n139 =>
 J16x72 M C i2x0 s2x1 n2x1 i2x2 s2x3 n2x3 p6 s8 n8 s139 n139 s13 n13 s111 n111 i112 i113 r139.2 Q
 ) := by kernel_rfl
theorem J16x71xeq (C : Cal) (i2x0 : Int) (s2x1 : SA) (n2x1 : Nat) (i2x2 : Int) (s2x3 : SA) (n2x3 : Nat) (p6 : Option Ad) (s8 : SA) (n8 : Nat) (s11 : SA) (n11 : Nat) (s13 : SA) (n13 : Nat) (i17 : Int) (s111 : SA) (n111 : Nat) (i112 i113 : Int) (h : Heap) (Q : Kont R) : TEq (J16x71 mk0 C i2x0 s2x1 n2x1 i2x2 s2x3 n2x3 p6 s8 n8 s11 n11 s13 n13 i17 s111 n111 i112 i113 h Q) (J16x71xaux mk0 C i2x0 s2x1 n2x1 i2x2 s2x3 n2x3 p6 s8 n8 s11 n11 s13 n13 i17 s111 n111 i112 i113 h Q) := join_eqn _ _ h (J16x71xaux mk0 C i2x0 s2x1 n2x1 i2x2 s2x3 n2x3 p6 s8 n8 s11 n11 s13 n13 i17 s111 n111 i112 i113 h Q)
theorem J16x72xaux (M : Mk) (C : Cal) (i2x0 : Int) (s2x1 : SA) (n2x1 : Nat) (i2x2 : Int) (s2x3 : SA) (n2x3 : Nat) (p6 : Option Ad) (s8 : SA) (n8 : Nat) (s11 : SA) (n11 : Nat) (s13 : SA) (n13 : Nat) (s111 : SA) (n111 : Nat) (i112 i113 : Int) (h : Heap) (Q : Kont R) : (forceK tk (.any :: .any :: (.box [(.int .i64 i2x0), (.sl s2x1 n2x1), (.int .i64 i2x2), (.sl s2x3 n2x3)] :: (rep 3 (vp p6 :: (.any :: (vl s8 n8 :: (.any :: .any :: (vl s11 n11 :: (.any :: (vl s13 n13 :: (rep 97 (vl s111 n111 :: (vi i112 :: (vi i113 :: (rep 27 []))))))))))))))) fun e => (seqQ (evalE M C k16x61) (roundQ M C k16x56 18173039004871896699856737152280900 2372 Q)) .normal ⟨e, h⟩) = (
 letK (IntKind.wrap .i64 (i113 + 1)) fun i140 =>
 L16x56 M C i2x0 s2x1 n2x1 i2x2 s2x3 n2x3 p6 s8 n8 s11 n11 s13 n13 s111 n111 i112 i140 h Q
 ) := by kernel_rfl
theorem J16x72xeq (C : Cal) (i2x0 : Int) (s2x1 : SA) (n2x1 : Nat) (i2x2 : Int) (s2x3 : SA) (n2x3 : Nat) (p6 : Option Ad) (s8 : SA) (n8 : Nat) (s11 : SA) (n11 : Nat) (s13 : SA) (n13 : Nat) (s111 : SA) (n111 : Nat) (i112 i113 : Int) (h : Heap) (Q : Kont R) : TEq (J16x72 mk0 C i2x0 s2x1 n2x1 i2x2 s2x3 n2x3 p6 s8 n8 s11 n11 s13 n13 s111 n111 i112 i113 h Q) (J16x72xaux mk0 C i2x0 s2x1 n2x1 i2x2 s2x3 n2x3 p6 s8 n8 s11 n11 s13 n13 s111 n111 i112 i113 h Q) := join_eqn _ _ h (J16x72xaux mk0 C i2x0 s2x1 n2x1 i2x2 s2x3 n2x3 p6 s8 n8 s11 n11 s13 n13 s111 n111 i112 i113 h Q)
theorem X16x56xe6 (i2x0 : Int) (s2x1 : SA) (n2x1 : Nat) (i2x2 : Int) (s2x3 : SA) (n2x3 : Nat) (p6 : Option Ad) (s8 : SA) (n8 : Nat) (s11 : SA) (n11 : Nat) (h : Heap) (Q : Kont R) : Q16x56 M C Q (.exit 6) (S16xe6 i2x0 s2x1 n2x1 i2x2 s2x3 n2x3 p6 s8 n8 s11 n11 h) = (
 L16x25 M C i2x0 s2x1 n2x1 i2x2 s2x3 n2x3 p6 s8 n8 s11 n11 h Q
 ) := by kernel_rfl
end
end Go.Proofs.Ytnmdadadjneaiaa.D
