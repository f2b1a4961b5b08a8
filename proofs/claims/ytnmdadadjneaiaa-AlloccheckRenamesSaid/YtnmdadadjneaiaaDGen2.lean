/- Parts of the proof, printed. -/
import Derived.Test.YtnmdadadjneaiaaLibD
import Derived.Test.YtnmdadadjneaiaaDGen
import Derived.KernelRfl
set_option linter.unusedVariables false
set_option maxRecDepth 100000
namespace Go.Proofs.Ytnmdadadjneaiaa.D
open Go Go.Proofs.Ytnmdadadjneaiaa.Abs Go.Proofs
section
variable {R : Type} (M : Mk) (C : Cal)
def k18x5 : AC := .ret
def k18x4 : AC := .seq (.mask 4) k18x5
def k18x3 : AC := .mask 1
def k18x2 : AC := .seq (.cond (.tmp 4)
   (.seq (.ops false [
      ⟨(some 2), .move (.c (.sl .nil 0)), none, []⟩]) k18x4)
   (.skip)) k18x3
def k18x7 : AC := .ret
def k18x6 : AC := .seq (.mask 4) k18x7
def k18x1 : AC := .seq (.ops false [
    ⟨(some 5), .buildSl [] 1 [], none, []⟩,
    ⟨(some 6), .move (.tmp 0), none, []⟩,
    ⟨(some 7), .append [(.int .i64 0)] 1 8 (.tmp 5) (.tmp 6), none, []⟩,
    ⟨(some 2), .move (.tmp 7), none, []⟩]) k18x6
def k18x0 : AC := .seq (.seq (.ops false [
    ⟨(some 3), .move (.tmp 0), none, []⟩,
    ⟨(some 4), .bin .sl .eql (.tmp 3) (.c (.sl .nil 0)), none, []⟩]) k18x2) k18x1
/-- slices.Clone[[]int,int] -/
def c18 : AFn := ⟨8, [.tmp 2],
  .seq (.ops false [
    ⟨(some 2), .move (.c (.sl .nil 0)), none, []⟩]) k18x0⟩
theorem r18 (s0 : SA) (n0 : Nat) (h : Heap) : runE M C c18 [(.sl s0 n0)] h = (
  if (SA.isNil s0) = true then
    (
    some ((.sl .nil 0), h)
    )
  else
    (
    newK h (.cells [] (.grow 1) 0) fun h_2 =>
    (ldSl h_2 s0 (n0 * 1)).bind fun y7 =>
    (apnd h_2 (.sl (.pos ⟨List.length h, 0, 0⟩) 0) 1 8 y7 n0).bind fun r7 =>
    gL (some r7.1) true fun s7 n7 =>
    some ((.sl s7 n7), r7.2)
    )
  ) := by kernel_rfl
theorem cf18 : cFn Try.prog 18 = some c18 := by kernel_rfl
theorem e18 (s0 : SA) (n0 : Nat) (h : Heap) : TEq (E 18 [(.sl s0 n0)] h) (r18 mk0 E s0 n0 h) := (EV_eq (P := Try.prog) (T := T0) rfl cf18 [(.sl s0 n0)] h).trans (r18 mk0 E s0 n0 h)
theorem r21 (i0 : Int) (h : Heap) : runE M C c21 [(.int .i64 i0)] h = (
  letK ((decide ((i0 : Int) = 101)) : Bool) fun b4 =>
  letK ((decide ((i0 : Int) = 102)) : Bool) fun b7 =>
  letK ((if b4 = true then true else b7) : Bool) fun b8 =>
  some ((.bool b8), h)
  ) := by kernel_rfl
theorem e21 (i0 : Int) (h : Heap) : TEq (E 21 [(.int .i64 i0)] h) (r21 mk0 E i0 h) := (EV_eq (P := Try.prog) (T := T0) rfl cf21 [(.int .i64 i0)] h).trans (r21 mk0 E i0 h)
def k33x6 : AC := .ret
def k33x5 : AC := .seq (.mask 16) k33x6
def k33x4 : AC := .mask 1
def k33x3 : AC := .seq (.cond (.tmp 9)
   (.seq (.ops false [
      ⟨(some 10), .move (.tmp 0), none, []⟩,
      ⟨(some 11), .move (.tmp 1), none, []⟩,
      ⟨(some 12), .bin .other .add (.tmp 10) (.tmp 11), none, []⟩,
      ⟨(some 4), .move (.tmp 12), none, []⟩]) k33x5)
   (.skip)) k33x4
def k33x8 : AC := .ret
def k33x7 : AC := .seq (.mask 16) k33x8
def k33x2 : AC := .seq (.ops false [
    ⟨(some 13), .move (.tmp 0), none, []⟩,
    ⟨(some 4), .move (.tmp 13), none, []⟩]) k33x7
def k33x1 : AC := .seq (.seq (.ops false [
    ⟨(some 8), .move (.tmp 0), none, []⟩,
    ⟨(some 9), .bin .other .lss (.tmp 8) (.c (.int .i64 0)), none, []⟩]) k33x3) k33x2
def k33x0 : AC := .seq (.ops false [
    ⟨(some 5), .move (.tmp 0), none, []⟩,
    ⟨(some 6), .move (.tmp 1), none, []⟩,
    ⟨(some 7), .bin .other .rem (.tmp 5) (.tmp 6), none, []⟩,
    ⟨(some 0), .move (.tmp 7), none, []⟩]) k33x1
/-- provenance/provenanceref4.modulo -/
def c33 : AFn := ⟨14, [.tmp 4],
  .seq (.ops false [
    ⟨(some 4), .move (.c (.int .i64 0)), none, []⟩]) k33x0⟩
theorem r33 (i0 : Int) (i1 : Int) (h : Heap) : runE M C c33 [(.int .i64 i0), (.int .i64 i1)] h = (
  chk (true = true → (i1 : Int) ≠ 0) <|
  letK ((Int.tmod i0 i1) : Int) fun i7 =>
  letK ((decide ((i7 : Int) < 0)) : Bool) fun b9 =>
  if b9 = true then
    (
    letK ((IntKind.wrap .i64 (i7 + i1)) : Int) fun i12 =>
    some ((.int .i64 i12), h)
    )
  else
    (
    some ((.int .i64 i7), h)
    )
  ) := by kernel_rfl
theorem cf33 : cFn Try.prog 33 = some c33 := by kernel_rfl
theorem e33 (i0 : Int) (i1 : Int) (h : Heap) : TEq (E 33 [(.int .i64 i0), (.int .i64 i1)] h) (r33 mk0 E i0 i1 h) := (EV_eq (P := Try.prog) (T := T0) rfl cf33 [(.int .i64 i0), (.int .i64 i1)] h).trans (r33 mk0 E i0 i1 h)
def k11x2 : AC := .ret
def k11x1 : AC := .seq (.mask 16) k11x2
def k11x0 : AC := .seq (.ops false [
    ⟨(some 5), .move (.tmp 0), none, []⟩,
    ⟨(some 6), .move (.tmp 1), none, []⟩,
    ⟨(some 7), .call 33 [(.tmp 5), (.tmp 6)] [(.cell (.int .i64))] (.int .i64 0), none, []⟩,
    ⟨(some 4), .move (.tmp 7), none, []⟩]) k11x1
/-- provenance/provenanceref4.Rest -/
def c11 : AFn := ⟨8, [.tmp 4],
  .seq (.ops false [
    ⟨(some 4), .move (.c (.int .i64 0)), none, []⟩]) k11x0⟩
theorem r11 (i0 : Int) (i1 : Int) (h : Heap) : runE M C c11 [(.int .i64 i0), (.int .i64 i1)] h = (
  (C 33 [(.int .i64 i0), (.int .i64 i1)] h).bind fun r7 =>
  gI .i64 (some r7.1) true fun i7 =>
  some ((.int .i64 i7), r7.2)
  ) := by kernel_rfl
theorem cf11 : cFn Try.prog 11 = some c11 := by kernel_rfl
theorem e11 (i0 : Int) (i1 : Int) (h : Heap) : TEq (E 11 [(.int .i64 i0), (.int .i64 i1)] h) (r11 mk0 E i0 i1 h) := (EV_eq (P := Try.prog) (T := T0) rfl cf11 [(.int .i64 i0), (.int .i64 i1)] h).trans (r11 mk0 E i0 i1 h)
def k49x6 : AC := .ret
def k49x5 : AC := .seq (.mask 16) k49x6
def k49x10 : AC := .ret
def k49x9 : AC := .seq (.mask 16) k49x10
def k49x14 : AC := .ret
def k49x13 : AC := .seq (.mask 16) k49x14
def k49x12 : AC := .mask 0
def k49x11 : AC := .seq (.cond (.tmp 20)
   (.seq (.ops false [
      ⟨(some 27), .fieldAddr 1 (.tmp 2), none, []⟩,
      ⟨(some 28), .load (.cell .sl) (.tmp 27), none, []⟩,
      ⟨(some 29), .move (.tmp 1), none, []⟩,
      ⟨(some 30), .indexAddr 1 (.tmp 28) (.tmp 29), none, []⟩,
      ⟨(some 31), .load (.cell (.int .i64)) (.tmp 30), none, []⟩,
      ⟨(some 32), .bin .other .add (.c (.int .i64 11)) (.tmp 31), none, []⟩,
      ⟨(some 4), .move (.tmp 32), none, []⟩]) k49x13)
   (.skip)) k49x12
def k49x8 : AC := .mask 0
def k49x7 : AC := .seq (.cond (.tmp 8)
   (.seq (.ops false [
      ⟨(some 15), .fieldAddr 0 (.tmp 2), none, []⟩,
      ⟨(some 16), .load (.cell .sl) (.tmp 15), none, []⟩,
      ⟨(some 17), .move (.tmp 1), none, []⟩,
      ⟨(some 18), .indexAddr 1 (.tmp 16) (.tmp 17), none, []⟩,
      ⟨(some 19), .load (.cell (.int .i64)) (.tmp 18), none, []⟩,
      ⟨(some 4), .move (.tmp 19), none, []⟩]) k49x9)
   (.seq (.ops false [
      ⟨(some 21), .fieldAddr 1 (.tmp 2), none, []⟩,
      ⟨(some 22), .load (.cell .sl) (.tmp 21), none, []⟩,
      ⟨(some 23), .move (.tmp 1), none, []⟩,
      ⟨(some 24), .indexAddr 1 (.tmp 22) (.tmp 23), none, []⟩,
      ⟨(some 25), .load (.cell (.int .i64)) (.tmp 24), none, []⟩,
      ⟨(some 26), .bin .other .geq (.tmp 25) (.c (.int .i64 0)), none, []⟩,
      ⟨(some 20), .move (.tmp 26), none, []⟩]) k49x11)) k49x8
def k49x4 : AC := .mask 0
def k49x3 : AC := .seq (.cond (.tmp 5)
   (.seq (.ops false [
      ⟨(some 4), .move (.c (.int .i64 0)), none, []⟩]) k49x5)
   (.seq (.ops false [
      ⟨(some 9), .fieldAddr 0 (.tmp 2), none, []⟩,
      ⟨(some 10), .load (.cell .sl) (.tmp 9), none, []⟩,
      ⟨(some 11), .move (.tmp 1), none, []⟩,
      ⟨(some 12), .indexAddr 1 (.tmp 10) (.tmp 11), none, []⟩,
      ⟨(some 13), .load (.cell (.int .i64)) (.tmp 12), none, []⟩,
      ⟨(some 14), .bin .other .gtr (.tmp 13) (.c (.int .i64 0)), none, []⟩,
      ⟨(some 8), .move (.tmp 14), none, []⟩]) k49x7)) k49x4
def k49x2 : AC := .mask 0
def k49x16 : AC := .ret
def k49x15 : AC := .seq (.mask 16) k49x16
def k49x1 : AC := .seq (.ops false [
    ⟨(some 4), .move (.c (.int .i64 0)), none, []⟩]) k49x15
def k49x0 : AC := .seq (.seq (.block 0 (.seq (.ops false [
     ⟨(some 6), .move (.tmp 1), none, []⟩,
     ⟨(some 7), .bin .other .eql (.tmp 6) (.c (.int .i64 0)), none, []⟩,
     ⟨(some 5), .move (.tmp 7), none, []⟩]) k49x3)) k49x2) k49x1
/-- provenance/alloccheck.place -/
def c49 : AFn := ⟨33, [.tmp 4],
  .seq (.ops false [
    ⟨(some 2), .boxL (.tmp 0), none, []⟩,
    ⟨(some 4), .move (.c (.int .i64 0)), none, []⟩]) k49x0⟩
theorem r49 (s0x0 : SA) (n0x0 : Nat) (s0x1 : SA) (n0x1 : Nat) (i0x2 : Int) (i1 : Int) (h : Heap) : runE M C c49 [(.agg [(.sl s0x0 n0x0), (.sl s0x1 n0x1), (.int .i64 i0x2)]), (.int .i64 i1)] h = (
  letK ((decide ((i1 : Int) = 0)) : Bool) fun b7 =>
  if b7 = true then
    (
    some ((.int .i64 0), h)
    )
  else
    (
    chk (true = true → (0 : Int) ≤ i1 ∧ (i1 : Int) < ((n0x0 : Nat) : Int)) <|
    atP (adP s0x0) true fun a12 =>
    gI .i64 (ld1 h (Ad.add a12 (Int.toNat i1 * 1))) true fun i13 =>
    letK ((decide ((0 : Int) < i13)) : Bool) fun b14 =>
    if b14 = true then
      (
      chk (true = true → (0 : Int) ≤ i1 ∧ (i1 : Int) < ((n0x0 : Nat) : Int)) <|
      atP (adP s0x0) true fun a18 =>
      gI .i64 (ld1 h (Ad.add a18 (Int.toNat i1 * 1))) true fun i19 =>
      some ((.int .i64 i19), h)
      )
    else
      (
      chk (true = true → (0 : Int) ≤ i1 ∧ (i1 : Int) < ((n0x1 : Nat) : Int)) <|
      atP (adP s0x1) true fun a24 =>
      gI .i64 (ld1 h (Ad.add a24 (Int.toNat i1 * 1))) true fun i25 =>
      letK ((decide ((0 : Int) ≤ i25)) : Bool) fun b26 =>
      if b26 = true then
        (
        chk (true = true → (0 : Int) ≤ i1 ∧ (i1 : Int) < ((n0x1 : Nat) : Int)) <|
        atP (adP s0x1) true fun a30 =>
        gI .i64 (ld1 h (Ad.add a30 (Int.toNat i1 * 1))) true fun i31 =>
        letK ((IntKind.wrap .i64 (11 + i31)) : Int) fun i32 =>
        some ((.int .i64 i32), h)
        )
      else
        (
        some ((.int .i64 0), h)
        )
      )
    )
  ) := by kernel_rfl
theorem cf49 : cFn Try.prog 49 = some c49 := by kernel_rfl
theorem e49 (s0x0 : SA) (n0x0 : Nat) (s0x1 : SA) (n0x1 : Nat) (i0x2 : Int) (i1 : Int) (h : Heap) : TEq (E 49 [(.agg [(.sl s0x0 n0x0), (.sl s0x1 n0x1), (.int .i64 i0x2)]), (.int .i64 i1)] h) (r49 mk0 E s0x0 n0x0 s0x1 n0x1 i0x2 i1 h) := (EV_eq (P := Try.prog) (T := T0) rfl cf49 [(.agg [(.sl s0x0 n0x0), (.sl s0x1 n0x1), (.int .i64 i0x2)]), (.int .i64 i1)] h).trans (r49 mk0 E s0x0 n0x0 s0x1 n0x1 i0x2 i1 h)
def k47x9 : AC := .exit 0
def k47x8 : AC := .mask 3106
def k47x12 : AC := .ops false [
    ⟨(some 14), .move (.tmp 5), none, []⟩,
    ⟨(some 15), .move (.tmp 6), none, []⟩,
    ⟨(some 16), .move (.tmp 1), none, []⟩,
    ⟨(some 17), .makeSl [(.bool false)] 1 (.tmp 16) (.tmp 16), none, []⟩,
    ⟨(some 18), .indexAddr 1 (.tmp 14) (.tmp 15), none, []⟩,
    ⟨none, .store 1 (.tmp 18) (.tmp 17), none, []⟩]
def k47x11 : AC := .mask 3106
def k47x10 : AC := .ops false [
    ⟨(some 19), .bin .other .add (.tmp 11) (.c (.int .i64 1)), none, []⟩,
    ⟨(some 11), .move (.tmp 19), none, []⟩]
def k47x7 : AC := .seq (.seq (.block 1 (.seq (.ops false [
     ⟨(some 13), .move (.tmp 11), none, []⟩,
     ⟨(some 6), .move (.tmp 13), none, []⟩]) k47x12)) k47x11) k47x10
def k47x6 : AC := .seq (.seq (.cond (.tmp 12)
   (.skip)
   (.seq (.mask 32) k47x9)) k47x8) k47x7
def k47x5 : AC := .seq (.ops false [
    ⟨(some 12), .bin .other .lss (.tmp 11) (.tmp 10), none, []⟩]) k47x6
def k47x4 : AC := .mask 32
def k47x3 : AC := .seq (.block 0 (.loop 3106 32 k47x5)) k47x4
def k47x14 : AC := .ret
def k47x13 : AC := .seq (.mask 16) k47x14
def k47x2 : AC := .seq (.ops false [
    ⟨(some 20), .move (.tmp 5), none, []⟩,
    ⟨(some 4), .move (.tmp 20), none, []⟩]) k47x13
def k47x1 : AC := .seq (.seq (.ops false [
    ⟨(some 9), .move (.tmp 5), none, []⟩,
    ⟨(some 10), .lenSl (.tmp 9), none, []⟩,
    ⟨(some 11), .move (.c (.int .i64 0)), none, []⟩]) k47x3) k47x2
def k47x0 : AC := .seq (.ops false [
    ⟨(some 7), .move (.tmp 0), none, []⟩,
    ⟨(some 8), .makeSl [(.sl .nil 0)] 24 (.tmp 7) (.tmp 7), none, []⟩,
    ⟨(some 5), .move (.tmp 8), none, []⟩]) k47x1
/-- provenance/alloccheck.newHolds -/
def c47 : AFn := ⟨21, [.tmp 4],
  .seq (.ops false [
    ⟨(some 4), .move (.c (.sl .nil 0)), none, []⟩]) k47x0⟩
def S47xe0 (s5 : SA) (n5 : Nat) (h : Heap) : St := ⟨(rep 5 (.g [] true (.sl s5 n5) :: (rep 15 []))), h⟩
noncomputable def Q47x5 (M : Mk) (C : Cal) : Kont (AV × Heap) := (blockQ 0 (seqQ (evalE M C k47x4) (seqQ (evalE M C k47x2) (endQ [.tmp 4]))))
noncomputable def L47x5 (i1 : Int) (s5 : SA) (n5 : Nat) (i10 : Int) (i11 : Int) (h : Heap) (Q : Kont R) : Option R := loopE (evalE M C k47x5) 3106 32 ⟨(.any :: (.g [] true (.int .i64 i1) :: (rep 3 (.g [] true (.sl s5 n5) :: (rep 4 (.g [] true (.int .i64 i10) :: (.g [] true (.int .i64 i11) :: (rep 9 [])))))))), h⟩ Q
theorem r47 (i0 : Int) (i1 : Int) (h : Heap) : runE M C c47 [(.int .i64 i0), (.int .i64 i1)] h = (
  chk ((0 : Int) ≤ i0 ∧ (i0 : Int) ≤ i0 ∧ i0 * ((24 : Nat) : Int) ≤ 70368744177664) <|
  newK h (.cells (repl (Int.toNat i0) [(.sl .nil 0)]) (.grow 1) 0) fun h_2 =>
  L47x5 M C i1 (.pos ⟨List.length h, 0, 0⟩) (Int.toNat i0) (((Int.toNat i0) : Nat) : Int) 0 h_2 (Q47x5 M C)
  ) := by kernel_rfl
theorem cf47 : cFn Try.prog 47 = some c47 := by kernel_rfl
theorem e47 (i0 : Int) (i1 : Int) (h : Heap) : TEq (E 47 [(.int .i64 i0), (.int .i64 i1)] h) (r47 mk0 E i0 i1 h) := (EV_eq (P := Try.prog) (T := T0) rfl cf47 [(.int .i64 i0), (.int .i64 i1)] h).trans (r47 mk0 E i0 i1 h)
theorem L47x5xaux (i1 : Int) (s5 : SA) (n5 : Nat) (i10 : Int) (i11 : Int) (h : Heap) (Q : Kont R) : (restrF 3106 ⟨(.any :: (.g [] true (.int .i64 i1) :: (rep 3 (.g [] true (.sl s5 n5) :: (rep 4 (.g [] true (.int .i64 i10) :: (.g [] true (.int .i64 i11) :: (rep 9 [])))))))), h⟩ fun σ => evalE M C k47x5 σ (roundQ M C k47x5 3106 32 Q)) = (
  letK ((decide ((i11 : Int) < i10)) : Bool) fun b12 =>
  if b12 = true then
    (
    chk ((0 : Int) ≤ i1 ∧ (i1 : Int) ≤ i1 ∧ i1 * ((1 : Nat) : Int) ≤ 70368744177664) <|
    newK h (.cells (repl (Int.toNat i1) [(.bool false)]) (.grow 1) 0) fun h_2 =>
    chk (true = true → (0 : Int) ≤ i11 ∧ (i11 : Int) < ((n5 : Nat) : Int)) <|
    atP (adP s5) true fun a18 =>
    (st1 h_2 (Ad.add a18 (Int.toNat i11 * 1)) (.sl (.pos ⟨List.length h, 0, 0⟩) (Int.toNat i1))).bind fun h_3 =>
    letK ((IntKind.wrap .i64 (i11 + 1)) : Int) fun i19 =>
    L47x5 M C i1 s5 n5 i10 i19 h_3 Q
    )
  else
    (
    Q (.exit 0) (S47xe0 s5 n5 h)
    )
  ) := by kernel_rfl
theorem L47x5xeq (i1 : Int) (s5 : SA) (n5 : Nat) (i10 : Int) (i11 : Int) (h : Heap) (Q : Kont R) : TEq (L47x5 mk0 C i1 s5 n5 i10 i11 h Q) (L47x5xaux mk0 C i1 s5 n5 i10 i11 h Q) := loop_eqn C k47x5 3106 32 (.any :: (.g [] true (.int .i64 i1) :: (rep 3 (.g [] true (.sl s5 n5) :: (rep 4 (.g [] true (.int .i64 i10) :: (.g [] true (.int .i64 i11) :: (rep 9 [])))))))) h Q (by kernel_rfl) (L47x5xaux mk0 C i1 s5 n5 i10 i11 h Q)
theorem X47x5xe0 (M : Mk) (C : Cal) (s5 : SA) (n5 : Nat) (h : Heap) : Q47x5 M C (.exit 0) (S47xe0 s5 n5 h) = (
  some ((.sl s5 n5), h)
  ) := by kernel_rfl
theorem r80 (s0 : SA) (n0 : Nat) (h : Heap) : runE M C c80 [(.sl s0 n0)] h = (
  if (SA.isNil s0) = true then
    (
    some ((.sl .nil 0), h)
    )
  else
    (
    newK h (.cells [] (.grow 1) 0) fun h_2 =>
    (ldSl h_2 s0 (n0 * 1)).bind fun y7 =>
    (apnd h_2 (.sl (.pos ⟨List.length h, 0, 0⟩) 0) 1 1 y7 n0).bind fun r7 =>
    gL (some r7.1) true fun s7 n7 =>
    some ((.sl s7 n7), r7.2)
    )
  ) := by kernel_rfl
theorem e80 (s0 : SA) (n0 : Nat) (h : Heap) : TEq (E 80 [(.sl s0 n0)] h) (r80 mk0 E s0 n0 h) := (EV_eq (P := Try.prog) (T := T0) rfl cf80 [(.sl s0 n0)] h).trans (r80 mk0 E s0 n0 h)
def k50x9 : AC := .exit 0
def k50x8 : AC := .mask 3592
def k50x12 : AC := .ops false [
    ⟨(some 16), .move (.tmp 3), none, []⟩,
    ⟨(some 17), .move (.tmp 4), none, []⟩,
    ⟨(some 18), .move (.tmp 5), none, []⟩,
    ⟨(some 19), .call 80 [(.tmp 18)] [(.cell .sl)] (.sl .nil 0), none, []⟩,
    ⟨(some 20), .indexAddr 1 (.tmp 16) (.tmp 17), none, []⟩,
    ⟨none, .store 1 (.tmp 20) (.tmp 19), none, []⟩]
def k50x11 : AC := .mask 3592
def k50x10 : AC := .ops false [
    ⟨(some 21), .bin .other .add (.tmp 11) (.c (.int .i64 1)), none, []⟩,
    ⟨(some 11), .move (.tmp 21), none, []⟩]
def k50x7 : AC := .seq (.seq (.block 1 (.seq (.ops false [
     ⟨(some 13), .move (.tmp 11), none, []⟩,
     ⟨(some 14), .indexAddr 1 (.tmp 9) (.tmp 11), none, []⟩,
     ⟨(some 15), .load (.cell .sl) (.tmp 14), none, []⟩,
     ⟨(some 4), .move (.tmp 13), none, []⟩,
     ⟨(some 5), .move (.tmp 15), none, []⟩]) k50x12)) k50x11) k50x10
def k50x6 : AC := .seq (.seq (.cond (.tmp 12)
   (.skip)
   (.seq (.mask 8) k50x9)) k50x8) k50x7
def k50x5 : AC := .seq (.ops false [
    ⟨(some 12), .bin .other .lss (.tmp 11) (.tmp 10), none, []⟩]) k50x6
def k50x4 : AC := .mask 8
def k50x3 : AC := .seq (.block 0 (.loop 3592 8 k50x5)) k50x4
def k50x14 : AC := .ret
def k50x13 : AC := .seq (.mask 4) k50x14
def k50x2 : AC := .seq (.ops false [
    ⟨(some 22), .move (.tmp 3), none, []⟩,
    ⟨(some 2), .move (.tmp 22), none, []⟩]) k50x13
def k50x1 : AC := .seq (.seq (.ops false [
    ⟨(some 9), .move (.tmp 0), none, []⟩,
    ⟨(some 10), .lenSl (.tmp 9), none, []⟩,
    ⟨(some 11), .move (.c (.int .i64 0)), none, []⟩]) k50x3) k50x2
def k50x0 : AC := .seq (.ops false [
    ⟨(some 6), .move (.tmp 0), none, []⟩,
    ⟨(some 7), .lenSl (.tmp 6), none, []⟩,
    ⟨(some 8), .makeSl [(.sl .nil 0)] 24 (.tmp 7) (.tmp 7), none, []⟩,
    ⟨(some 3), .move (.tmp 8), none, []⟩]) k50x1
/-- (provenance/alloccheck.holds).clone -/
def c50 : AFn := ⟨23, [.tmp 2],
  .seq (.ops false [
    ⟨(some 2), .move (.c (.sl .nil 0)), none, []⟩]) k50x0⟩
def S50xe0 (s3 : SA) (n3 : Nat) (h : Heap) : St := ⟨(rep 3 (.g [] true (.sl s3 n3) :: (rep 19 []))), h⟩
noncomputable def Q50x5 (M : Mk) (C : Cal) : Kont (AV × Heap) := (blockQ 0 (seqQ (evalE M C k50x4) (seqQ (evalE M C k50x2) (endQ [.tmp 2]))))
noncomputable def L50x5 (s3 : SA) (n3 : Nat) (s9 : SA) (n9 : Nat) (i10 : Int) (i11 : Int) (h : Heap) (Q : Kont R) : Option R := loopE (evalE M C k50x5) 3592 8 ⟨(rep 3 (.g [] true (.sl s3 n3) :: (rep 5 (.g [] true (.sl s9 n9) :: (.g [] true (.int .i64 i10) :: (.g [] true (.int .i64 i11) :: (rep 11 []))))))), h⟩ Q
theorem r50 (s0 : SA) (n0 : Nat) (h : Heap) : runE M C c50 [(.sl s0 n0)] h = (
  chk ((0 : Int) ≤ ((n0 : Nat) : Int) ∧ (((n0 : Nat) : Int) : Int) ≤ ((n0 : Nat) : Int) ∧ ((n0 : Nat) : Int) * ((24 : Nat) : Int) ≤ 70368744177664) <|
  newK h (.cells (repl (Int.toNat ((n0 : Nat) : Int)) [(.sl .nil 0)]) (.grow 1) 0) fun h_2 =>
  letK ((Int.toNat ((n0 : Nat) : Int)) : Nat) fun n8 =>
  L50x5 M C (.pos ⟨List.length h, 0, 0⟩) n8 s0 n0 ((n0 : Nat) : Int) 0 h_2 (Q50x5 M C)
  ) := by kernel_rfl
theorem cf50 : cFn Try.prog 50 = some c50 := by kernel_rfl
theorem e50 (s0 : SA) (n0 : Nat) (h : Heap) : TEq (E 50 [(.sl s0 n0)] h) (r50 mk0 E s0 n0 h) := (EV_eq (P := Try.prog) (T := T0) rfl cf50 [(.sl s0 n0)] h).trans (r50 mk0 E s0 n0 h)
theorem L50x5xaux (s3 : SA) (n3 : Nat) (s9 : SA) (n9 : Nat) (i10 : Int) (i11 : Int) (h : Heap) (Q : Kont R) : (restrF 3592 ⟨(rep 3 (.g [] true (.sl s3 n3) :: (rep 5 (.g [] true (.sl s9 n9) :: (.g [] true (.int .i64 i10) :: (.g [] true (.int .i64 i11) :: (rep 11 []))))))), h⟩ fun σ => evalE M C k50x5 σ (roundQ M C k50x5 3592 8 Q)) = (
  letK ((decide ((i11 : Int) < i10)) : Bool) fun b12 =>
  if b12 = true then
    (
    chk (true = true → (0 : Int) ≤ i11 ∧ (i11 : Int) < ((n9 : Nat) : Int)) <|
    atP (adP s9) true fun a14 =>
    gL (ld1 h (Ad.add a14 (Int.toNat i11 * 1))) true fun s15 n15 =>
    (C 80 [(.sl s15 n15)] h).bind fun r19 =>
    gL (some r19.1) true fun s19 n19 =>
    chk (true = true → (0 : Int) ≤ i11 ∧ (i11 : Int) < ((n3 : Nat) : Int)) <|
    atP (adP s3) true fun a20 =>
    (st1 r19.2 (Ad.add a20 (Int.toNat i11 * 1)) (.sl s19 n19)).bind fun h_2 =>
    letK ((IntKind.wrap .i64 (i11 + 1)) : Int) fun i21 =>
    L50x5 M C s3 n3 s9 n9 i10 i21 h_2 Q
    )
  else
    (
    Q (.exit 0) (S50xe0 s3 n3 h)
    )
  ) := by kernel_rfl
theorem L50x5xeq (s3 : SA) (n3 : Nat) (s9 : SA) (n9 : Nat) (i10 : Int) (i11 : Int) (h : Heap) (Q : Kont R) : TEq (L50x5 mk0 C s3 n3 s9 n9 i10 i11 h Q) (L50x5xaux mk0 C s3 n3 s9 n9 i10 i11 h Q) := loop_eqn C k50x5 3592 8 (rep 3 (.g [] true (.sl s3 n3) :: (rep 5 (.g [] true (.sl s9 n9) :: (.g [] true (.int .i64 i10) :: (.g [] true (.int .i64 i11) :: (rep 11 []))))))) h Q (by kernel_rfl) (L50x5xaux mk0 C s3 n3 s9 n9 i10 i11 h Q)
theorem X50x5xe0 (M : Mk) (C : Cal) (s3 : SA) (n3 : Nat) (h : Heap) : Q50x5 M C (.exit 0) (S50xe0 s3 n3 h) = (
  some ((.sl s3 n3), h)
  ) := by kernel_rfl
def k53x9 : AC := .exit 0
def k53x8 : AC := .mask 7202
def k53x19 : AC := .exit 2
def k53x18 : AC := .mask 924898
def k53x24 : AC := .join 924898
def k53x23 : AC := .seq (.cond (.tmp 34)
   (.ops false [
      ⟨(some 35), .move (.tmp 7), none, []⟩,
      ⟨(some 36), .move (.tmp 8), none, []⟩,
      ⟨(some 37), .indexAddr 1 (.tmp 35) (.tmp 36), none, []⟩,
      ⟨none, .store 1 (.tmp 37) (.c (.bool false)), none, []⟩,
      ⟨(some 5), .move (.c (.bool true)), none, []⟩])
   (.skip)) k53x24
def k53x22 : AC := .seq (.ops true [
    ⟨(some 24), .move (.tmp 9), none, []⟩,
    ⟨(some 25), .move (.tmp 24), none, []⟩,
    ⟨(some 26), .move (.tmp 1), (some (25, true)), []⟩,
    ⟨(some 27), .move (.tmp 6), (some (25, true)), []⟩,
    ⟨(some 28), .indexAddr 1 (.tmp 26) (.tmp 27), (some (25, true)), []⟩,
    ⟨(some 29), .load (.cell .sl) (.tmp 28), (some (25, true)), []⟩,
    ⟨(some 30), .move (.tmp 8), (some (25, true)), []⟩,
    ⟨(some 31), .indexAddr 1 (.tmp 29) (.tmp 30), (some (25, true)), []⟩,
    ⟨(some 32), .load (.cell .bool) (.tmp 31), (some (25, true)), []⟩,
    ⟨(some 33), .un .not (.tmp 32), (some (25, true)), []⟩,
    ⟨(some 34), .pick (.tmp 25) (.tmp 33) (.c (.bool false)), none, []⟩]) k53x23
def k53x21 : AC := .mask 924898
def k53x20 : AC := .ops false [
    ⟨(some 38), .bin .other .add (.tmp 19) (.c (.int .i64 1)), none, []⟩,
    ⟨(some 19), .move (.tmp 38), none, []⟩]
def k53x17 : AC := .seq (.seq (.block 3 (.seq (.ops false [
     ⟨(some 21), .move (.tmp 19), none, []⟩,
     ⟨(some 22), .indexAddr 1 (.tmp 17) (.tmp 19), none, []⟩,
     ⟨(some 23), .load (.cell .bool) (.tmp 22), none, []⟩,
     ⟨(some 8), .move (.tmp 21), none, []⟩,
     ⟨(some 9), .move (.tmp 23), none, []⟩]) k53x22)) k53x21) k53x20
def k53x16 : AC := .seq (.seq (.cond (.tmp 20)
   (.skip)
   (.seq (.mask 7202) k53x19)) k53x18) k53x17
def k53x15 : AC := .seq (.ops false [
    ⟨(some 20), .bin .other .lss (.tmp 19) (.tmp 18), none, []⟩]) k53x16
def k53x14 : AC := .mask 7202
def k53x13 : AC := .seq (.block 2 (.loop 924898 7202 k53x15)) k53x14
def k53x12 : AC := .seq (.ops false [
    ⟨(some 17), .move (.tmp 7), none, []⟩,
    ⟨(some 18), .lenSl (.tmp 17), none, []⟩,
    ⟨(some 19), .move (.c (.int .i64 0)), none, []⟩]) k53x13
def k53x11 : AC := .mask 7202
def k53x10 : AC := .ops false [
    ⟨(some 39), .bin .other .add (.tmp 12) (.c (.int .i64 1)), none, []⟩,
    ⟨(some 12), .move (.tmp 39), none, []⟩]
def k53x7 : AC := .seq (.seq (.block 1 (.seq (.ops false [
     ⟨(some 14), .move (.tmp 12), none, []⟩,
     ⟨(some 15), .indexAddr 1 (.tmp 10) (.tmp 12), none, []⟩,
     ⟨(some 16), .load (.cell .sl) (.tmp 15), none, []⟩,
     ⟨(some 6), .move (.tmp 14), none, []⟩,
     ⟨(some 7), .move (.tmp 16), none, []⟩]) k53x12)) k53x11) k53x10
def k53x6 : AC := .seq (.seq (.cond (.tmp 13)
   (.skip)
   (.seq (.mask 32) k53x9)) k53x8) k53x7
def k53x5 : AC := .seq (.ops false [
    ⟨(some 13), .bin .other .lss (.tmp 12) (.tmp 11), none, []⟩]) k53x6
def k53x4 : AC := .mask 32
def k53x3 : AC := .seq (.block 0 (.loop 7202 32 k53x5)) k53x4
def k53x27 : AC := .ret
def k53x26 : AC := .seq (.mask 16) k53x27
def k53x2 : AC := .seq (.ops false [
    ⟨(some 40), .move (.tmp 5), none, []⟩,
    ⟨(some 4), .move (.tmp 40), none, []⟩]) k53x26
def k53x1 : AC := .seq (.seq (.ops false [
    ⟨(some 10), .move (.tmp 0), none, []⟩,
    ⟨(some 11), .lenSl (.tmp 10), none, []⟩,
    ⟨(some 12), .move (.c (.int .i64 0)), none, []⟩]) k53x3) k53x2
def k53x0 : AC := .seq (.ops false [
    ⟨(some 5), .move (.c (.bool false)), none, []⟩]) k53x1
/-- (provenance/alloccheck.holds).meet -/
def c53 : AFn := ⟨41, [.tmp 4],
  .seq (.ops false [
    ⟨(some 4), .move (.c (.bool false)), none, []⟩]) k53x0⟩
def S53xe0 (b5 : Bool) (h : Heap) : St := ⟨(rep 5 (.g [] true (.bool b5) :: (rep 35 []))), h⟩
def S53xe2 (s1 : SA) (n1 : Nat) (b5 : Bool) (s10 : SA) (n10 : Nat) (i11 : Int) (i12 : Int) (h : Heap) : St := ⟨(.any :: (.g [] true (.sl s1 n1) :: (rep 3 (.g [] true (.bool b5) :: (rep 4 (.g [] true (.sl s10 n10) :: (.g [] true (.int .i64 i11) :: (.g [] true (.int .i64 i12) :: (rep 28 []))))))))), h⟩
noncomputable def Q53x5 (M : Mk) (C : Cal) : Kont (AV × Heap) := (blockQ 0 (seqQ (evalE M C k53x4) (seqQ (evalE M C k53x2) (endQ [.tmp 4]))))
noncomputable def L53x5 (s1 : SA) (n1 : Nat) (b5 : Bool) (s10 : SA) (n10 : Nat) (i11 : Int) (i12 : Int) (h : Heap) (Q : Kont R) : Option R := loopE (evalE M C k53x5) 7202 32 ⟨(.any :: (.g [] true (.sl s1 n1) :: (rep 3 (.g [] true (.bool b5) :: (rep 4 (.g [] true (.sl s10 n10) :: (.g [] true (.int .i64 i11) :: (.g [] true (.int .i64 i12) :: (rep 28 []))))))))), h⟩ Q
noncomputable def Q53x15 (M : Mk) (C : Cal) (Q : Kont R) : Kont R := (blockQ 2 (seqQ (evalE M C k53x14) (blockQ 1 (seqQ (evalE M C k53x11) (seqQ (evalE M C k53x10) (roundQ M C k53x5 7202 32 Q))))))
noncomputable def L53x15 (s1 : SA) (n1 : Nat) (b5 : Bool) (i6 : Int) (s7 : SA) (n7 : Nat) (s10 : SA) (n10 : Nat) (i11 : Int) (i12 : Int) (s17 : SA) (n17 : Nat) (i18 : Int) (i19 : Int) (h : Heap) (Q : Kont R) : Option R := loopE (evalE M C k53x15) 924898 7202 ⟨(.any :: (.g [] true (.sl s1 n1) :: (rep 3 (.g [] true (.bool b5) :: (.g [] true (.int .i64 i6) :: (.g [] true (.sl s7 n7) :: (.any :: .any :: (.g [] true (.sl s10 n10) :: (.g [] true (.int .i64 i11) :: (.g [] true (.int .i64 i12) :: (rep 4 (.g [] true (.sl s17 n17) :: (.g [] true (.int .i64 i18) :: (.g [] true (.int .i64 i19) :: (rep 21 []))))))))))))))), h⟩ Q
noncomputable def J53x25 (M : Mk) (C : Cal) (s1 : SA) (n1 : Nat) (b5 : Bool) (i6 : Int) (s7 : SA) (n7 : Nat) (s10 : SA) (n10 : Nat) (i11 : Int) (i12 : Int) (s17 : SA) (n17 : Nat) (i18 : Int) (i19 : Int) (h : Heap) (Q : Kont R) : Option R := M R (blockQ 3 (seqQ (evalE M C k53x21) (seqQ (evalE M C k53x20) (roundQ M C k53x15 924898 7202 Q)))) (.any :: (.g [] true (.sl s1 n1) :: (rep 3 (.g [] true (.bool b5) :: (.g [] true (.int .i64 i6) :: (.g [] true (.sl s7 n7) :: (.any :: .any :: (.g [] true (.sl s10 n10) :: (.g [] true (.int .i64 i11) :: (.g [] true (.int .i64 i12) :: (rep 4 (.g [] true (.sl s17 n17) :: (.g [] true (.int .i64 i18) :: (.g [] true (.int .i64 i19) :: (rep 21 []))))))))))))))) h
theorem r53 (s0 : SA) (n0 : Nat) (s1 : SA) (n1 : Nat) (h : Heap) : runE M C c53 [(.sl s0 n0), (.sl s1 n1)] h = (
  L53x5 M C s1 n1 false s0 n0 ((n0 : Nat) : Int) 0 h (Q53x5 M C)
  ) := by kernel_rfl
theorem cf53 : cFn Try.prog 53 = some c53 := by kernel_rfl
theorem e53 (s0 : SA) (n0 : Nat) (s1 : SA) (n1 : Nat) (h : Heap) : TEq (E 53 [(.sl s0 n0), (.sl s1 n1)] h) (r53 mk0 E s0 n0 s1 n1 h) := (EV_eq (P := Try.prog) (T := T0) rfl cf53 [(.sl s0 n0), (.sl s1 n1)] h).trans (r53 mk0 E s0 n0 s1 n1 h)
theorem L53x5xaux (s1 : SA) (n1 : Nat) (b5 : Bool) (s10 : SA) (n10 : Nat) (i11 : Int) (i12 : Int) (h : Heap) (Q : Kont R) : (restrF 7202 ⟨(.any :: (.g [] true (.sl s1 n1) :: (rep 3 (.g [] true (.bool b5) :: (rep 4 (.g [] true (.sl s10 n10) :: (.g [] true (.int .i64 i11) :: (.g [] true (.int .i64 i12) :: (rep 28 []))))))))), h⟩ fun σ => evalE M C k53x5 σ (roundQ M C k53x5 7202 32 Q)) = (
  letK ((decide ((i12 : Int) < i11)) : Bool) fun b13 =>
  if b13 = true then
    (
    chk (true = true → (0 : Int) ≤ i12 ∧ (i12 : Int) < ((n10 : Nat) : Int)) <|
    atP (adP s10) true fun a15 =>
    gL (ld1 h (Ad.add a15 (Int.toNat i12 * 1))) true fun s16 n16 =>
    L53x15 M C s1 n1 b5 i12 s16 n16 s10 n10 i11 i12 s16 n16 ((n16 : Nat) : Int) 0 h (Q53x15 M C Q)
    )
  else
    (
    Q (.exit 0) (S53xe0 b5 h)
    )
  ) := by kernel_rfl
theorem L53x5xeq (s1 : SA) (n1 : Nat) (b5 : Bool) (s10 : SA) (n10 : Nat) (i11 : Int) (i12 : Int) (h : Heap) (Q : Kont R) : TEq (L53x5 mk0 C s1 n1 b5 s10 n10 i11 i12 h Q) (L53x5xaux mk0 C s1 n1 b5 s10 n10 i11 i12 h Q) := loop_eqn C k53x5 7202 32 (.any :: (.g [] true (.sl s1 n1) :: (rep 3 (.g [] true (.bool b5) :: (rep 4 (.g [] true (.sl s10 n10) :: (.g [] true (.int .i64 i11) :: (.g [] true (.int .i64 i12) :: (rep 28 []))))))))) h Q (by kernel_rfl) (L53x5xaux mk0 C s1 n1 b5 s10 n10 i11 i12 h Q)
theorem L53x15xaux (s1 : SA) (n1 : Nat) (b5 : Bool) (i6 : Int) (s7 : SA) (n7 : Nat) (s10 : SA) (n10 : Nat) (i11 : Int) (i12 : Int) (s17 : SA) (n17 : Nat) (i18 : Int) (i19 : Int) (h : Heap) (Q : Kont R) : (restrF 924898 ⟨(.any :: (.g [] true (.sl s1 n1) :: (rep 3 (.g [] true (.bool b5) :: (.g [] true (.int .i64 i6) :: (.g [] true (.sl s7 n7) :: (.any :: .any :: (.g [] true (.sl s10 n10) :: (.g [] true (.int .i64 i11) :: (.g [] true (.int .i64 i12) :: (rep 4 (.g [] true (.sl s17 n17) :: (.g [] true (.int .i64 i18) :: (.g [] true (.int .i64 i19) :: (rep 21 []))))))))))))))), h⟩ fun σ => evalE M C k53x15 σ (roundQ M C k53x15 924898 7202 Q)) = (
  letK ((decide ((i19 : Int) < i18)) : Bool) fun b20 =>
  if b20 = true then
    (
    chk (true = true → (0 : Int) ≤ i19 ∧ (i19 : Int) < ((n17 : Nat) : Int)) <|
    atP (adP s17) true fun a22 =>
    gB (ld1 h (Ad.add a22 (Int.toNat i19 * 1))) true fun b23 =>
    chk (b23 = true → (0 : Int) ≤ i6 ∧ (i6 : Int) < ((n1 : Nat) : Int)) <|
    atP (adP s1) b23 fun a28 =>
    atP (some (Ad.add a28 (Int.toNat i6 * 1))) b23 fun a29 =>
    gL (ld1 h a29) b23 fun s29 n29 =>
    chk (b23 = true → (0 : Int) ≤ i19 ∧ (i19 : Int) < ((n29 : Nat) : Int)) <|
    atP (adP s29) b23 fun a31 =>
    atP (some (Ad.add a31 (Int.toNat i19 * 1))) b23 fun a32 =>
    gB (ld1 h a32) b23 fun b32 =>
    letK ((if b23 = true then (!b32) else false) : Bool) fun b34 =>
    if b34 = true then
      (
      chk (true = true → (0 : Int) ≤ i19 ∧ (i19 : Int) < ((n7 : Nat) : Int)) <|
      atP (adP s7) true fun a37 =>
      (st1 h (Ad.add a37 (Int.toNat i19 * 1)) (.bool false)).bind fun h_2 =>
      J53x25 M C s1 n1 true i6 s7 n7 s10 n10 i11 i12 s17 n17 i18 i19 h_2 Q
      )
    else
      (
      J53x25 M C s1 n1 b5 i6 s7 n7 s10 n10 i11 i12 s17 n17 i18 i19 h Q
      )
    )
  else
    (
    Q (.exit 2) (S53xe2 s1 n1 b5 s10 n10 i11 i12 h)
    )
  ) := by kernel_rfl
theorem L53x15xeq (s1 : SA) (n1 : Nat) (b5 : Bool) (i6 : Int) (s7 : SA) (n7 : Nat) (s10 : SA) (n10 : Nat) (i11 : Int) (i12 : Int) (s17 : SA) (n17 : Nat) (i18 : Int) (i19 : Int) (h : Heap) (Q : Kont R) : TEq (L53x15 mk0 C s1 n1 b5 i6 s7 n7 s10 n10 i11 i12 s17 n17 i18 i19 h Q) (L53x15xaux mk0 C s1 n1 b5 i6 s7 n7 s10 n10 i11 i12 s17 n17 i18 i19 h Q) := loop_eqn C k53x15 924898 7202 (.any :: (.g [] true (.sl s1 n1) :: (rep 3 (.g [] true (.bool b5) :: (.g [] true (.int .i64 i6) :: (.g [] true (.sl s7 n7) :: (.any :: .any :: (.g [] true (.sl s10 n10) :: (.g [] true (.int .i64 i11) :: (.g [] true (.int .i64 i12) :: (rep 4 (.g [] true (.sl s17 n17) :: (.g [] true (.int .i64 i18) :: (.g [] true (.int .i64 i19) :: (rep 21 []))))))))))))))) h Q (by kernel_rfl) (L53x15xaux mk0 C s1 n1 b5 i6 s7 n7 s10 n10 i11 i12 s17 n17 i18 i19 h Q)
theorem J53x25xaux (M : Mk) (C : Cal) (s1 : SA) (n1 : Nat) (b5 : Bool) (i6 : Int) (s7 : SA) (n7 : Nat) (s10 : SA) (n10 : Nat) (i11 : Int) (i12 : Int) (s17 : SA) (n17 : Nat) (i18 : Int) (i19 : Int) (h : Heap) (Q : Kont R) : (forceK tk (.any :: (.g [] true (.sl s1 n1) :: (rep 3 (.g [] true (.bool b5) :: (.g [] true (.int .i64 i6) :: (.g [] true (.sl s7 n7) :: (.any :: .any :: (.g [] true (.sl s10 n10) :: (.g [] true (.int .i64 i11) :: (.g [] true (.int .i64 i12) :: (rep 4 (.g [] true (.sl s17 n17) :: (.g [] true (.int .i64 i18) :: (.g [] true (.int .i64 i19) :: (rep 21 []))))))))))))))) fun e => (blockQ 3 (seqQ (evalE M C k53x21) (seqQ (evalE M C k53x20) (roundQ M C k53x15 924898 7202 Q)))) .normal ⟨e, h⟩) = (
  letK ((IntKind.wrap .i64 (i19 + 1)) : Int) fun i38 =>
  L53x15 M C s1 n1 b5 i6 s7 n7 s10 n10 i11 i12 s17 n17 i18 i38 h Q
  ) := by kernel_rfl
theorem J53x25xeq (C : Cal) (s1 : SA) (n1 : Nat) (b5 : Bool) (i6 : Int) (s7 : SA) (n7 : Nat) (s10 : SA) (n10 : Nat) (i11 : Int) (i12 : Int) (s17 : SA) (n17 : Nat) (i18 : Int) (i19 : Int) (h : Heap) (Q : Kont R) : TEq (J53x25 mk0 C s1 n1 b5 i6 s7 n7 s10 n10 i11 i12 s17 n17 i18 i19 h Q) (J53x25xaux mk0 C s1 n1 b5 i6 s7 n7 s10 n10 i11 i12 s17 n17 i18 i19 h Q) := join_eqn (blockQ 3 (seqQ (evalE mk0 C k53x21) (seqQ (evalE mk0 C k53x20) (roundQ mk0 C k53x15 924898 7202 Q)))) (.any :: (.g [] true (.sl s1 n1) :: (rep 3 (.g [] true (.bool b5) :: (.g [] true (.int .i64 i6) :: (.g [] true (.sl s7 n7) :: (.any :: .any :: (.g [] true (.sl s10 n10) :: (.g [] true (.int .i64 i11) :: (.g [] true (.int .i64 i12) :: (rep 4 (.g [] true (.sl s17 n17) :: (.g [] true (.int .i64 i18) :: (.g [] true (.int .i64 i19) :: (rep 21 []))))))))))))))) h (J53x25xaux mk0 C s1 n1 b5 i6 s7 n7 s10 n10 i11 i12 s17 n17 i18 i19 h Q)
theorem X53x5xe0 (M : Mk) (C : Cal) (b5 : Bool) (h : Heap) : Q53x5 M C (.exit 0) (S53xe0 b5 h) = (
  some ((.bool b5), h)
  ) := by kernel_rfl
theorem X53x15xe2 (M : Mk) (C : Cal) (s1 : SA) (n1 : Nat) (b5 : Bool) (s10 : SA) (n10 : Nat) (i11 : Int) (i12 : Int) (h : Heap) (Q : Kont R) : Q53x15 M C Q (.exit 2) (S53xe2 s1 n1 b5 s10 n10 i11 i12 h) = (
  letK ((IntKind.wrap .i64 (i12 + 1)) : Int) fun i39 =>
  L53x5 M C s1 n1 b5 s10 n10 i11 i39 h Q
  ) := by kernel_rfl
def k48x7 : AC := .exit 0
def k48x6 : AC := .mask 14351
def k48x10 : AC := .ops false [
    ⟨(some 17), .move (.tmp 9), none, []⟩,
    ⟨(some 18), .move (.tmp 2), none, []⟩,
    ⟨(some 19), .indexAddr 1 (.tmp 17) (.tmp 18), none, []⟩,
    ⟨none, .store 1 (.tmp 19) (.c (.bool false)), none, []⟩]
def k48x9 : AC := .mask 14351
def k48x8 : AC := .ops false [
    ⟨(some 20), .bin .other .add (.tmp 13) (.c (.int .i64 1)), none, []⟩,
    ⟨(some 13), .move (.tmp 20), none, []⟩]
def k48x5 : AC := .seq (.seq (.block 1 (.seq (.ops false [
     ⟨(some 15), .indexAddr 1 (.tmp 11) (.tmp 13), none, []⟩,
     ⟨(some 16), .load (.cell .sl) (.tmp 15), none, []⟩,
     ⟨(some 9), .move (.tmp 16), none, []⟩]) k48x10)) k48x9) k48x8
def k48x4 : AC := .seq (.seq (.cond (.tmp 14)
   (.skip)
   (.seq (.mask 15) k48x7)) k48x6) k48x5
def k48x3 : AC := .seq (.ops false [
    ⟨(some 14), .bin .other .lss (.tmp 13) (.tmp 12), none, []⟩]) k48x4
def k48x2 : AC := .mask 15
def k48x1 : AC := .seq (.block 0 (.loop 14351 15 k48x3)) k48x2
def k48x14 : AC := .ret
def k48x13 : AC := .mask 15
def k48x12 : AC := .seq (.cond (.tmp 22)
   (.seq (.mask 0) k48x14)
   (.skip)) k48x13
def k48x17 : AC := .ops false [
    ⟨(some 35), .move (.tmp 0), none, []⟩,
    ⟨(some 36), .move (.tmp 1), none, []⟩,
    ⟨(some 37), .move (.tmp 10), none, []⟩,
    ⟨(some 38), .indexAddr 1 (.tmp 35) (.tmp 36), none, []⟩,
    ⟨none, .store 1 (.tmp 38) (.tmp 37), none, []⟩]
def k48x16 : AC := .seq (.ops false [
    ⟨(some 32), .move (.tmp 10), none, []⟩,
    ⟨(some 33), .move (.tmp 2), none, []⟩,
    ⟨(some 34), .indexAddr 1 (.tmp 32) (.tmp 33), none, []⟩,
    ⟨none, .store 1 (.tmp 34) (.c (.bool true)), none, []⟩]) k48x17
def k48x15 : AC := .seq (.ops false [
    ⟨(some 29), .move (.tmp 10), none, []⟩,
    ⟨(some 30), .move (.tmp 3), none, []⟩,
    ⟨(some 31), .copy 1 (.tmp 29) (.tmp 30), none, []⟩]) k48x16
def k48x11 : AC := .seq (.ops false [
    ⟨(some 23), .move (.tmp 0), none, []⟩,
    ⟨(some 24), .move (.tmp 1), none, []⟩,
    ⟨(some 25), .indexAddr 1 (.tmp 23) (.tmp 24), none, []⟩,
    ⟨(some 26), .load (.cell .sl) (.tmp 25), none, []⟩,
    ⟨(some 27), .lenSl (.tmp 26), none, []⟩,
    ⟨(some 28), .makeSl [(.bool false)] 1 (.tmp 27) (.tmp 27), none, []⟩,
    ⟨(some 10), .move (.tmp 28), none, []⟩]) k48x15
def k48x0 : AC := .seq (.seq (.ops false [
    ⟨(some 21), .move (.tmp 1), none, []⟩,
    ⟨(some 22), .bin .other .eql (.tmp 21) (.c (.int .i64 0)), none, []⟩]) k48x12) k48x11
/-- (provenance/alloccheck.holds).define -/
def c48 : AFn := ⟨39, [],
  .seq (.seq (.ops false [
    ⟨(some 11), .move (.tmp 0), none, []⟩,
    ⟨(some 12), .lenSl (.tmp 11), none, []⟩,
    ⟨(some 13), .move (.c (.int .i64 0)), none, []⟩]) k48x1) k48x0⟩
def S48xe0 (s0 : SA) (n0 : Nat) (i1 : Int) (i2 : Int) (s3 : SA) (n3 : Nat) (h : Heap) : St := ⟨(.g [] true (.sl s0 n0) :: (.g [] true (.int .i64 i1) :: (.g [] true (.int .i64 i2) :: (.g [] true (.sl s3 n3) :: (rep 35 []))))), h⟩
noncomputable def Q48x3 (M : Mk) (C : Cal) : Kont (AV × Heap) := (blockQ 0 (seqQ (evalE M C k48x2) (seqQ (evalE M C k48x0) (endQ []))))
noncomputable def L48x3 (s0 : SA) (n0 : Nat) (i1 : Int) (i2 : Int) (s3 : SA) (n3 : Nat) (s11 : SA) (n11 : Nat) (i12 : Int) (i13 : Int) (h : Heap) (Q : Kont R) : Option R := loopE (evalE M C k48x3) 14351 15 ⟨(.g [] true (.sl s0 n0) :: (.g [] true (.int .i64 i1) :: (.g [] true (.int .i64 i2) :: (.g [] true (.sl s3 n3) :: (rep 7 (.g [] true (.sl s11 n11) :: (.g [] true (.int .i64 i12) :: (.g [] true (.int .i64 i13) :: (rep 25 []))))))))), h⟩ Q
theorem r48 (s0 : SA) (n0 : Nat) (i1 : Int) (i2 : Int) (s3 : SA) (n3 : Nat) (h : Heap) : runE M C c48 [(.sl s0 n0), (.int .i64 i1), (.int .i64 i2), (.sl s3 n3)] h = (
  L48x3 M C s0 n0 i1 i2 s3 n3 s0 n0 ((n0 : Nat) : Int) 0 h (Q48x3 M C)
  ) := by kernel_rfl
theorem cf48 : cFn Try.prog 48 = some c48 := by kernel_rfl
theorem e48 (s0 : SA) (n0 : Nat) (i1 : Int) (i2 : Int) (s3 : SA) (n3 : Nat) (h : Heap) : TEq (E 48 [(.sl s0 n0), (.int .i64 i1), (.int .i64 i2), (.sl s3 n3)] h) (r48 mk0 E s0 n0 i1 i2 s3 n3 h) := (EV_eq (P := Try.prog) (T := T0) rfl cf48 [(.sl s0 n0), (.int .i64 i1), (.int .i64 i2), (.sl s3 n3)] h).trans (r48 mk0 E s0 n0 i1 i2 s3 n3 h)
theorem L48x3xaux (s0 : SA) (n0 : Nat) (i1 : Int) (i2 : Int) (s3 : SA) (n3 : Nat) (s11 : SA) (n11 : Nat) (i12 : Int) (i13 : Int) (h : Heap) (Q : Kont R) : (restrF 14351 ⟨(.g [] true (.sl s0 n0) :: (.g [] true (.int .i64 i1) :: (.g [] true (.int .i64 i2) :: (.g [] true (.sl s3 n3) :: (rep 7 (.g [] true (.sl s11 n11) :: (.g [] true (.int .i64 i12) :: (.g [] true (.int .i64 i13) :: (rep 25 []))))))))), h⟩ fun σ => evalE M C k48x3 σ (roundQ M C k48x3 14351 15 Q)) = (
  letK ((decide ((i13 : Int) < i12)) : Bool) fun b14 =>
  if b14 = true then
    (
    chk (true = true → (0 : Int) ≤ i13 ∧ (i13 : Int) < ((n11 : Nat) : Int)) <|
    atP (adP s11) true fun a15 =>
    gL (ld1 h (Ad.add a15 (Int.toNat i13 * 1))) true fun s16 n16 =>
    chk (true = true → (0 : Int) ≤ i2 ∧ (i2 : Int) < ((n16 : Nat) : Int)) <|
    atP (adP s16) true fun a19 =>
    (st1 h (Ad.add a19 (Int.toNat i2 * 1)) (.bool false)).bind fun h_2 =>
    letK ((IntKind.wrap .i64 (i13 + 1)) : Int) fun i20 =>
    L48x3 M C s0 n0 i1 i2 s3 n3 s11 n11 i12 i20 h_2 Q
    )
  else
    (
    Q (.exit 0) (S48xe0 s0 n0 i1 i2 s3 n3 h)
    )
  ) := by kernel_rfl
theorem L48x3xeq (s0 : SA) (n0 : Nat) (i1 : Int) (i2 : Int) (s3 : SA) (n3 : Nat) (s11 : SA) (n11 : Nat) (i12 : Int) (i13 : Int) (h : Heap) (Q : Kont R) : TEq (L48x3 mk0 C s0 n0 i1 i2 s3 n3 s11 n11 i12 i13 h Q) (L48x3xaux mk0 C s0 n0 i1 i2 s3 n3 s11 n11 i12 i13 h Q) := loop_eqn C k48x3 14351 15 (.g [] true (.sl s0 n0) :: (.g [] true (.int .i64 i1) :: (.g [] true (.int .i64 i2) :: (.g [] true (.sl s3 n3) :: (rep 7 (.g [] true (.sl s11 n11) :: (.g [] true (.int .i64 i12) :: (.g [] true (.int .i64 i13) :: (rep 25 []))))))))) h Q (by kernel_rfl) (L48x3xaux mk0 C s0 n0 i1 i2 s3 n3 s11 n11 i12 i13 h Q)
theorem X48x3xe0 (M : Mk) (C : Cal) (s0 : SA) (n0 : Nat) (i1 : Int) (i2 : Int) (s3 : SA) (n3 : Nat) (h : Heap) : Q48x3 M C (.exit 0) (S48xe0 s0 n0 i1 i2 s3 n3 h) = (
  letK ((decide ((i1 : Int) = 0)) : Bool) fun b22 =>
  if b22 = true then
    (
    some (.tup [], h)
    )
  else
    (
    chk (true = true → (0 : Int) ≤ i1 ∧ (i1 : Int) < ((n0 : Nat) : Int)) <|
    atP (adP s0) true fun a25 =>
    gL (ld1 h (Ad.add a25 (Int.toNat i1 * 1))) true fun s26 n26 =>
    chk ((0 : Int) ≤ ((n26 : Nat) : Int) ∧ (((n26 : Nat) : Int) : Int) ≤ ((n26 : Nat) : Int) ∧ ((n26 : Nat) : Int) * ((1 : Nat) : Int) ≤ 70368744177664) <|
    newK h (.cells (repl (Int.toNat ((n26 : Nat) : Int)) [(.bool false)]) (.grow 1) 0) fun h_2 =>
    letK ((Int.toNat ((n26 : Nat) : Int)) : Nat) fun n28 =>
    (ldSl h_2 s3 (min n3 n28 * 1)).bind fun y31 =>
    (cpyM h_2 (.pos ⟨List.length h, 0, 0⟩) (min n3 n28 * 1) y31).bind fun h_3 =>
    chk (true = true → (0 : Int) ≤ i2 ∧ (i2 : Int) < ((n28 : Nat) : Int)) <|
    (st1 h_3 (Ad.add ⟨List.length h, 0, 0⟩ (Int.toNat i2 * 1)) (.bool true)).bind fun h_4 =>
    chk (true = true → (0 : Int) ≤ i1 ∧ (i1 : Int) < ((n0 : Nat) : Int)) <|
    atP (adP s0) true fun a38 =>
    (st1 h_4 (Ad.add a38 (Int.toNat i1 * 1)) (.sl (.pos ⟨List.length h, 0, 0⟩) n28)).bind fun h_5 =>
    some (.tup [], h_5)
    )
  ) := by kernel_rfl
def k52x8 : AC := .exit 0
def k52x7 : AC := .mask 7171
def k52x16 : AC := .ret
def k52x15 : AC := .seq (.mask 64) k52x16
def k52x14 : AC := .mask 7171
def k52x13 : AC := .seq (.cond (.tmp 33)
   (.seq (.ops false [
      ⟨(some 6), .move (.c (.bool false)), none, []⟩]) k52x15)
   (.skip)) k52x14
def k52x12 : AC := .seq (.ops true [
    ⟨(some 22), .move (.tmp 9), none, []⟩,
    ⟨(some 23), .bin .other .eql (.tmp 22) (.c (.int .i64 0)), none, []⟩,
    ⟨(some 24), .move (.tmp 23), none, []⟩,
    ⟨(some 25), .move (.tmp 1), (some (24, false)), []⟩,
    ⟨(some 26), .move (.tmp 9), (some (24, false)), []⟩,
    ⟨(some 27), .indexAddr 1 (.tmp 25) (.tmp 26), (some (24, false)), []⟩,
    ⟨(some 28), .load (.cell .sl) (.tmp 27), (some (24, false)), []⟩,
    ⟨(some 29), .move (.tmp 8), (some (24, false)), []⟩,
    ⟨(some 30), .indexAddr 1 (.tmp 28) (.tmp 29), (some (24, false)), []⟩,
    ⟨(some 31), .load (.cell .bool) (.tmp 30), (some (24, false)), []⟩,
    ⟨(some 32), .un .not (.tmp 31), (some (24, false)), []⟩,
    ⟨(some 33), .pick (.tmp 24) (.c (.bool true)) (.tmp 32), none, []⟩]) k52x13
def k52x11 : AC := .seq (.ops false [
    ⟨(some 16), .move (.tmp 0), none, []⟩,
    ⟨(some 17), .nilCheck (.tmp 16), none, []⟩,
    ⟨(some 18), .fieldAddr 4 (.tmp 17), none, []⟩,
    ⟨(some 19), .load (.agg [.sl, .sl, (.int .i64)]) (.tmp 18), none, []⟩,
    ⟨(some 20), .move (.tmp 8), none, []⟩,
    ⟨(some 21), .call 49 [(.tmp 19), (.tmp 20)] [(.cell (.int .i64))] (.int .i64 0), none, []⟩,
    ⟨(some 9), .move (.tmp 21), none, []⟩]) k52x12
def k52x10 : AC := .mask 7171
def k52x9 : AC := .ops false [
    ⟨(some 34), .bin .other .add (.tmp 12) (.c (.int .i64 1)), none, []⟩,
    ⟨(some 12), .move (.tmp 34), none, []⟩]
def k52x6 : AC := .seq (.seq (.block 1 (.seq (.ops false [
     ⟨(some 14), .indexAddr 1 (.tmp 10) (.tmp 12), none, []⟩,
     ⟨(some 15), .load (.cell (.int .i64)) (.tmp 14), none, []⟩,
     ⟨(some 8), .move (.tmp 15), none, []⟩]) k52x11)) k52x10) k52x9
def k52x5 : AC := .seq (.seq (.cond (.tmp 13)
   (.skip)
   (.seq (.mask 0) k52x8)) k52x7) k52x6
def k52x4 : AC := .seq (.ops false [
    ⟨(some 13), .bin .other .lss (.tmp 12) (.tmp 11), none, []⟩]) k52x5
def k52x3 : AC := .mask 0
def k52x2 : AC := .seq (.block 0 (.loop 7171 0 k52x4)) k52x3
def k52x18 : AC := .ret
def k52x17 : AC := .seq (.mask 64) k52x18
def k52x1 : AC := .seq (.ops false [
    ⟨(some 6), .move (.c (.bool true)), none, []⟩]) k52x17
def k52x0 : AC := .seq (.seq (.ops false [
    ⟨(some 10), .move (.tmp 2), none, []⟩,
    ⟨(some 11), .lenSl (.tmp 10), none, []⟩,
    ⟨(some 12), .move (.c (.int .i64 0)), none, []⟩]) k52x2) k52x1
/-- (*provenance/alloccheck.checker).used -/
def c52 : AFn := ⟨35, [.tmp 6],
  .seq (.ops false [
    ⟨(some 6), .move (.c (.bool false)), none, []⟩]) k52x0⟩
def S52xr (b6 : Bool) (h : Heap) : St := ⟨(rep 6 (.g [] true (.bool b6) :: (rep 28 []))), h⟩
def S52xe0 (h : Heap) : St := ⟨(rep 35 []), h⟩
noncomputable def Q52x4 (M : Mk) (C : Cal) : Kont (AV × Heap) := (blockQ 0 (seqQ (evalE M C k52x3) (seqQ (evalE M C k52x1) (endQ [.tmp 6]))))
noncomputable def L52x4 (p0 : Option Ad) (s1 : SA) (n1 : Nat) (s10 : SA) (n10 : Nat) (i11 : Int) (i12 : Int) (h : Heap) (Q : Kont R) : Option R := loopE (evalE M C k52x4) 7171 0 ⟨(.g [] true (.ptr p0) :: (.g [] true (.sl s1 n1) :: (rep 8 (.g [] true (.sl s10 n10) :: (.g [] true (.int .i64 i11) :: (.g [] true (.int .i64 i12) :: (rep 22 []))))))), h⟩ Q
theorem r52 (p0 : Option Ad) (s1 : SA) (n1 : Nat) (s2 : SA) (n2 : Nat) (h : Heap) : runE M C c52 [(.ptr p0), (.sl s1 n1), (.sl s2 n2)] h = (
  L52x4 M C p0 s1 n1 s2 n2 ((n2 : Nat) : Int) 0 h (Q52x4 M C)
  ) := by kernel_rfl
theorem cf52 : cFn Try.prog 52 = some c52 := by kernel_rfl
theorem e52 (p0 : Option Ad) (s1 : SA) (n1 : Nat) (s2 : SA) (n2 : Nat) (h : Heap) : TEq (E 52 [(.ptr p0), (.sl s1 n1), (.sl s2 n2)] h) (r52 mk0 E p0 s1 n1 s2 n2 h) := (EV_eq (P := Try.prog) (T := T0) rfl cf52 [(.ptr p0), (.sl s1 n1), (.sl s2 n2)] h).trans (r52 mk0 E p0 s1 n1 s2 n2 h)
theorem L52x4xaux (p0 : Option Ad) (s1 : SA) (n1 : Nat) (s10 : SA) (n10 : Nat) (i11 : Int) (i12 : Int) (h : Heap) (Q : Kont R) : (restrF 7171 ⟨(.g [] true (.ptr p0) :: (.g [] true (.sl s1 n1) :: (rep 8 (.g [] true (.sl s10 n10) :: (.g [] true (.int .i64 i11) :: (.g [] true (.int .i64 i12) :: (rep 22 []))))))), h⟩ fun σ => evalE M C k52x4 σ (roundQ M C k52x4 7171 0 Q)) = (
  letK ((decide ((i12 : Int) < i11)) : Bool) fun b13 =>
  if b13 = true then
    (
    chk (true = true → (0 : Int) ≤ i12 ∧ (i12 : Int) < ((n10 : Nat) : Int)) <|
    atP (adP s10) true fun a14 =>
    gI .i64 (ld1 h (Ad.add a14 (Int.toNat i12 * 1))) true fun i15 =>
    atP p0 true fun a17 =>
    gCells (ldN h (Ad.add a17 4) 3) true fun l19 =>
    gL (l19[0]?) true fun s19x0 n19x0 =>
    gL (l19[1]?) true fun s19x1 n19x1 =>
    gI .i64 (l19[2]?) true fun i19x2 =>
    (C 49 [(.agg [(.sl s19x0 n19x0), (.sl s19x1 n19x1), (.int .i64 i19x2)]), (.int .i64 i15)] h).bind fun r21 =>
    gI .i64 (some r21.1) true fun i21 =>
    letK ((decide ((i21 : Int) = 0)) : Bool) fun b23 =>
    chk ((!b23) = true → (0 : Int) ≤ i21 ∧ (i21 : Int) < ((n1 : Nat) : Int)) <|
    atP (adP s1) (!b23) fun a27 =>
    atP (some (Ad.add a27 (Int.toNat i21 * 1))) (!b23) fun a28 =>
    gL (ld1 r21.2 a28) (!b23) fun s28 n28 =>
    chk ((!b23) = true → (0 : Int) ≤ i15 ∧ (i15 : Int) < ((n28 : Nat) : Int)) <|
    atP (adP s28) (!b23) fun a30 =>
    atP (some (Ad.add a30 (Int.toNat i15 * 1))) (!b23) fun a31 =>
    gB (ld1 r21.2 a31) (!b23) fun b31 =>
    letK ((if b23 = true then true else (!b31)) : Bool) fun b33 =>
    if b33 = true then
      (
      Q .ret (S52xr false r21.2)
      )
    else
      (
      letK ((IntKind.wrap .i64 (i12 + 1)) : Int) fun i34 =>
      L52x4 M C p0 s1 n1 s10 n10 i11 i34 r21.2 Q
      )
    )
  else
    (
    Q (.exit 0) (S52xe0 h)
    )
  ) := by kernel_rfl
theorem L52x4xeq (p0 : Option Ad) (s1 : SA) (n1 : Nat) (s10 : SA) (n10 : Nat) (i11 : Int) (i12 : Int) (h : Heap) (Q : Kont R) : TEq (L52x4 mk0 C p0 s1 n1 s10 n10 i11 i12 h Q) (L52x4xaux mk0 C p0 s1 n1 s10 n10 i11 i12 h Q) := loop_eqn C k52x4 7171 0 (.g [] true (.ptr p0) :: (.g [] true (.sl s1 n1) :: (rep 8 (.g [] true (.sl s10 n10) :: (.g [] true (.int .i64 i11) :: (.g [] true (.int .i64 i12) :: (rep 22 []))))))) h Q (by kernel_rfl) (L52x4xaux mk0 C p0 s1 n1 s10 n10 i11 i12 h Q)
theorem X52x4xr (M : Mk) (C : Cal) (b6 : Bool) (h : Heap) : Q52x4 M C .ret (S52xr b6 h) = (
  some ((.bool b6), h)
  ) := by kernel_rfl
theorem X52x4xe0 (M : Mk) (C : Cal) (h : Heap) : Q52x4 M C (.exit 0) (S52xe0 h) = (
  some ((.bool true), h)
  ) := by kernel_rfl
def k51x5 : AC := .ret
def k51x4 : AC := .seq (.mask 64) k51x5
def k51x3 : AC := .mask 35
def k51x2 : AC := .seq (.cond (.tmp 15)
   (.seq (.ops false [
      ⟨(some 6), .move (.c (.bool false)), none, []⟩]) k51x4)
   (.skip)) k51x3
def k51x15 : AC := .exit 0
def k51x14 : AC := .mask 163
def k51x13 : AC := .seq (.cond (.tmp 20)
   (.skip)
   (.seq (.mask 35) k51x15)) k51x14
def k51x17 : AC := .mask 163
def k51x16 : AC := .ops false [
    ⟨(some 21), .move (.tmp 7), none, []⟩,
    ⟨(some 22), .bin .other .add (.tmp 21) (.c (.int .i64 1)), none, []⟩,
    ⟨(some 7), .move (.tmp 22), none, []⟩]
def k51x12 : AC := .seq (.seq (.block 1 (.ops false [
     ⟨(some 23), .move (.tmp 1), none, []⟩,
     ⟨(some 24), .move (.tmp 7), none, []⟩,
     ⟨(some 25), .indexAddr 1 (.tmp 23) (.tmp 24), none, []⟩,
     ⟨(some 26), .load (.cell .sl) (.tmp 25), none, []⟩,
     ⟨none, .clear [(.bool false)] (.tmp 26), none, []⟩])) k51x17) k51x16
def k51x11 : AC := .seq (.seq (.ops false [
    ⟨(some 19), .move (.tmp 7), none, []⟩,
    ⟨(some 20), .bin .other .leq (.tmp 19) (.c (.int .i64 10)), none, []⟩]) k51x13) k51x12
def k51x10 : AC := .mask 35
def k51x9 : AC := .seq (.block 0 (.loop 163 35 k51x11)) k51x10
def k51x8 : AC := .join 35
def k51x7 : AC := .seq (.cond (.tmp 18)
   (.seq (.ops false [
      ⟨(some 7), .move (.c (.int .i64 1)), none, []⟩]) k51x9)
   (.skip)) k51x8
def k51x24 : AC := .ret
def k51x23 : AC := .seq (.mask 64) k51x24
def k51x22 : AC := .mask 291
def k51x21 : AC := .seq (.cond (.tmp 30)
   (.seq (.ops false [
      ⟨(some 6), .move (.c (.bool true)), none, []⟩]) k51x23)
   (.skip)) k51x22
def k51x29 : AC := .ops false [
    ⟨(some 50), .move (.tmp 9), none, []⟩,
    ⟨(some 51), .move (.tmp 8), none, []⟩,
    ⟨(some 52), .indexAddr 1 (.tmp 50) (.tmp 51), none, []⟩,
    ⟨none, .store 1 (.tmp 52) (.c (.bool false)), none, []⟩]
def k51x28 : AC := .join 771
def k51x27 : AC := .seq (.cond (.tmp 38)
   (.seq (.ops false [
      ⟨(some 39), .move (.tmp 1), none, []⟩,
      ⟨(some 40), .move (.tmp 0), none, []⟩,
      ⟨(some 41), .nilCheck (.tmp 40), none, []⟩,
      ⟨(some 42), .fieldAddr 4 (.tmp 41), none, []⟩,
      ⟨(some 43), .load (.agg [.sl, .sl, (.int .i64)]) (.tmp 42), none, []⟩,
      ⟨(some 44), .fieldAddr 2 (.tmp 5), none, []⟩,
      ⟨(some 45), .load (.cell (.int .i64)) (.tmp 44), none, []⟩,
      ⟨(some 46), .call 49 [(.tmp 43), (.tmp 45)] [(.cell (.int .i64))] (.int .i64 0), none, []⟩,
      ⟨(some 47), .indexAddr 1 (.tmp 39) (.tmp 46), none, []⟩,
      ⟨(some 48), .load (.cell .sl) (.tmp 47), none, []⟩,
      ⟨(some 49), .call 80 [(.tmp 48)] [(.cell .sl)] (.sl .nil 0), none, []⟩,
      ⟨(some 9), .move (.tmp 49), none, []⟩]) k51x29)
   (.skip)) k51x28
def k51x33 : AC := .ret
def k51x32 : AC := .seq (.mask 64) k51x33
def k51x31 : AC := .seq (.ops false [
    ⟨(some 6), .move (.c (.bool true)), none, []⟩]) k51x32
def k51x26 : AC := .seq (.ops false [
    ⟨(some 53), .move (.tmp 1), none, []⟩,
    ⟨(some 54), .move (.tmp 0), none, []⟩,
    ⟨(some 55), .nilCheck (.tmp 54), none, []⟩,
    ⟨(some 56), .fieldAddr 4 (.tmp 55), none, []⟩,
    ⟨(some 57), .load (.agg [.sl, .sl, (.int .i64)]) (.tmp 56), none, []⟩,
    ⟨(some 58), .move (.tmp 8), none, []⟩,
    ⟨(some 59), .call 49 [(.tmp 57), (.tmp 58)] [(.cell (.int .i64))] (.int .i64 0), none, []⟩,
    ⟨(some 60), .move (.tmp 8), none, []⟩,
    ⟨(some 61), .move (.tmp 9), none, []⟩,
    ⟨(some 62), .call 48 [(.tmp 53), (.tmp 59), (.tmp 60), (.tmp 61)] [] .opq, none, []⟩]) k51x31
def k51x25 : AC := .seq (.seq (.ops true [
    ⟨(some 31), .fieldAddr 0 (.tmp 5), none, []⟩,
    ⟨(some 32), .load (.cell (.int .i64)) (.tmp 31), none, []⟩,
    ⟨(some 33), .bin .other .eql (.tmp 32) (.c (.int .i64 100)), none, []⟩,
    ⟨(some 34), .move (.tmp 33), none, []⟩,
    ⟨(some 35), .fieldAddr 2 (.tmp 5), (some (34, true)), []⟩,
    ⟨(some 36), .load (.cell (.int .i64)) (.tmp 35), (some (34, true)), []⟩,
    ⟨(some 37), .bin .other .neq (.tmp 36) (.c (.int .i64 0)), (some (34, true)), []⟩,
    ⟨(some 38), .pick (.tmp 34) (.tmp 37) (.c (.bool false)), none, []⟩]) k51x27) k51x26
def k51x20 : AC := .seq (.ops false [
    ⟨(some 9), .move (.c (.sl .nil 0)), none, []⟩]) k51x25
def k51x19 : AC := .seq (.seq (.ops false [
    ⟨(some 29), .move (.tmp 8), none, []⟩,
    ⟨(some 30), .bin .other .eql (.tmp 29) (.c (.int .i64 0)), none, []⟩]) k51x21) k51x20
def k51x6 : AC := .seq (.ops false [
    ⟨(some 27), .load (.agg [(.int .i64), (.int .i64), (.int .i64), (.int .i64), (.int .i64), .sl]) (.tmp 5), none, []⟩,
    ⟨(some 28), .call 30 [(.tmp 27)] [(.cell (.int .i64))] (.int .i64 0), none, []⟩,
    ⟨(some 8), .move (.tmp 28), none, []⟩]) k51x19
def k51x1 : AC := .seq (.seq (.ops false [
    ⟨(some 16), .fieldAddr 0 (.tmp 5), none, []⟩,
    ⟨(some 17), .load (.cell (.int .i64)) (.tmp 16), none, []⟩,
    ⟨(some 18), .call 21 [(.tmp 17)] [(.cell .bool)] (.bool false), none, []⟩]) k51x7) k51x6
def k51x0 : AC := .seq (.seq (.ops false [
    ⟨(some 10), .move (.tmp 0), none, []⟩,
    ⟨(some 11), .move (.tmp 1), none, []⟩,
    ⟨(some 12), .load (.agg [(.int .i64), (.int .i64), (.int .i64), (.int .i64), (.int .i64), .sl]) (.tmp 5), none, []⟩,
    ⟨(some 13), .call 29 [(.tmp 12)] [(.cell .sl)] (.sl .nil 0), none, []⟩,
    ⟨(some 14), .call 52 [(.tmp 10), (.tmp 11), (.tmp 13)] [(.cell .bool)] (.bool false), none, []⟩,
    ⟨(some 15), .un .not (.tmp 14), none, []⟩]) k51x2) k51x1
/-- (*provenance/alloccheck.checker).ins -/
def c51 : AFn := ⟨63, [.tmp 6],
  .seq (.ops false [
    ⟨(some 5), .boxL (.tmp 2), none, []⟩,
    ⟨(some 6), .move (.c (.bool false)), none, []⟩]) k51x0⟩
def S51xe0 (p0 : Option Ad) (s1 : SA) (n1 : Nat) (i5x0 : Int) (i5x1 : Int) (i5x2 : Int) (i5x3 : Int) (i5x4 : Int) (s5x5 : SA) (n5x5 : Nat) (h : Heap) : St := ⟨(.g [] true (.ptr p0) :: (.g [] true (.sl s1 n1) :: (rep 3 (.box [(.int .i64 i5x0), (.int .i64 i5x1), (.int .i64 i5x2), (.int .i64 i5x3), (.int .i64 i5x4), (.sl s5x5 n5x5)] :: (rep 57 []))))), h⟩
noncomputable def Q51x11 (M : Mk) (C : Cal) : Kont (AV × Heap) := (blockQ 0 (seqQ (evalE M C k51x10) (seqQ (evalE M C k51x8) (seqQ (evalE M C k51x6) (endQ [.tmp 6])))))
noncomputable def L51x11 (p0 : Option Ad) (s1 : SA) (n1 : Nat) (i5x0 : Int) (i5x1 : Int) (i5x2 : Int) (i5x3 : Int) (i5x4 : Int) (s5x5 : SA) (n5x5 : Nat) (i7 : Int) (h : Heap) (Q : Kont R) : Option R := loopE (evalE M C k51x11) 163 35 ⟨(.g [] true (.ptr p0) :: (.g [] true (.sl s1 n1) :: (rep 3 (.box [(.int .i64 i5x0), (.int .i64 i5x1), (.int .i64 i5x2), (.int .i64 i5x3), (.int .i64 i5x4), (.sl s5x5 n5x5)] :: (.any :: (.g [] true (.int .i64 i7) :: (rep 55 []))))))), h⟩ Q
noncomputable def J51x18 (M : Mk) (C : Cal) (p0 : Option Ad) (s1 : SA) (n1 : Nat) (i5x0 : Int) (i5x1 : Int) (i5x2 : Int) (i5x3 : Int) (i5x4 : Int) (s5x5 : SA) (n5x5 : Nat) (h : Heap) : Res := M (AV × Heap) (seqQ (evalE M C k51x6) (endQ [.tmp 6])) (.g [] true (.ptr p0) :: (.g [] true (.sl s1 n1) :: (rep 3 (.box [(.int .i64 i5x0), (.int .i64 i5x1), (.int .i64 i5x2), (.int .i64 i5x3), (.int .i64 i5x4), (.sl s5x5 n5x5)] :: (rep 57 []))))) h
noncomputable def J51x30 (M : Mk) (C : Cal) (p0 : Option Ad) (s1 : SA) (n1 : Nat) (i8 : Int) (s9 : SA) (n9 : Nat) (h : Heap) : Res := M (AV × Heap) (seqQ (evalE M C k51x26) (endQ [.tmp 6])) (.g [] true (.ptr p0) :: (.g [] true (.sl s1 n1) :: (rep 6 (.g [] true (.int .i64 i8) :: (.g [] true (.sl s9 n9) :: (rep 53 [])))))) h
theorem r51 (p0 : Option Ad) (s1 : SA) (n1 : Nat) (i2x0 : Int) (i2x1 : Int) (i2x2 : Int) (i2x3 : Int) (i2x4 : Int) (s2x5 : SA) (n2x5 : Nat) (h : Heap) : runE M C c51 [(.ptr p0), (.sl s1 n1), (.agg [(.int .i64 i2x0), (.int .i64 i2x1), (.int .i64 i2x2), (.int .i64 i2x3), (.int .i64 i2x4), (.sl s2x5 n2x5)])] h = (
  (C 29 [(.agg [(.int .i64 i2x0), (.int .i64 i2x1), (.int .i64 i2x2), (.int .i64 i2x3), (.int .i64 i2x4), (.sl s2x5 n2x5)])] h).bind fun r13 =>
  gL (some r13.1) true fun s13 n13 =>
  (C 52 [(.ptr p0), (.sl s1 n1), (.sl s13 n13)] r13.2).bind fun r14 =>
  gB (some r14.1) true fun b14 =>
  if (!b14) = true then
    (
    some ((.bool false), r14.2)
    )
  else
    (
    (C 21 [(.int .i64 i2x0)] r14.2).bind fun r18 =>
    gB (some r18.1) true fun b18 =>
    if b18 = true then
      (
      L51x11 M C p0 s1 n1 i2x0 i2x1 i2x2 i2x3 i2x4 s2x5 n2x5 1 r18.2 (Q51x11 M C)
      )
    else
      (
      J51x18 M C p0 s1 n1 i2x0 i2x1 i2x2 i2x3 i2x4 s2x5 n2x5 r18.2
      )
    )
  ) := by kernel_rfl
theorem cf51 : cFn Try.prog 51 = some c51 := by kernel_rfl
theorem e51 (p0 : Option Ad) (s1 : SA) (n1 : Nat) (i2x0 : Int) (i2x1 : Int) (i2x2 : Int) (i2x3 : Int) (i2x4 : Int) (s2x5 : SA) (n2x5 : Nat) (h : Heap) : TEq (E 51 [(.ptr p0), (.sl s1 n1), (.agg [(.int .i64 i2x0), (.int .i64 i2x1), (.int .i64 i2x2), (.int .i64 i2x3), (.int .i64 i2x4), (.sl s2x5 n2x5)])] h) (r51 mk0 E p0 s1 n1 i2x0 i2x1 i2x2 i2x3 i2x4 s2x5 n2x5 h) := (EV_eq (P := Try.prog) (T := T0) rfl cf51 [(.ptr p0), (.sl s1 n1), (.agg [(.int .i64 i2x0), (.int .i64 i2x1), (.int .i64 i2x2), (.int .i64 i2x3), (.int .i64 i2x4), (.sl s2x5 n2x5)])] h).trans (r51 mk0 E p0 s1 n1 i2x0 i2x1 i2x2 i2x3 i2x4 s2x5 n2x5 h)
theorem L51x11xaux (p0 : Option Ad) (s1 : SA) (n1 : Nat) (i5x0 : Int) (i5x1 : Int) (i5x2 : Int) (i5x3 : Int) (i5x4 : Int) (s5x5 : SA) (n5x5 : Nat) (i7 : Int) (h : Heap) (Q : Kont R) : (restrF 163 ⟨(.g [] true (.ptr p0) :: (.g [] true (.sl s1 n1) :: (rep 3 (.box [(.int .i64 i5x0), (.int .i64 i5x1), (.int .i64 i5x2), (.int .i64 i5x3), (.int .i64 i5x4), (.sl s5x5 n5x5)] :: (.any :: (.g [] true (.int .i64 i7) :: (rep 55 []))))))), h⟩ fun σ => evalE M C k51x11 σ (roundQ M C k51x11 163 35 Q)) = (
  letK ((decide ((i7 : Int) ≤ 10)) : Bool) fun b20 =>
  if b20 = true then
    (
    chk (true = true → (0 : Int) ≤ i7 ∧ (i7 : Int) < ((n1 : Nat) : Int)) <|
    atP (adP s1) true fun a25 =>
    gL (ld1 h (Ad.add a25 (Int.toNat i7 * 1))) true fun s26 n26 =>
    (clrM h s26 n26 [(.bool false)]).bind fun h_2 =>
    letK ((IntKind.wrap .i64 (i7 + 1)) : Int) fun i22 =>
    L51x11 M C p0 s1 n1 i5x0 i5x1 i5x2 i5x3 i5x4 s5x5 n5x5 i22 h_2 Q
    )
  else
    (
    Q (.exit 0) (S51xe0 p0 s1 n1 i5x0 i5x1 i5x2 i5x3 i5x4 s5x5 n5x5 h)
    )
  ) := by kernel_rfl
theorem L51x11xeq (p0 : Option Ad) (s1 : SA) (n1 : Nat) (i5x0 : Int) (i5x1 : Int) (i5x2 : Int) (i5x3 : Int) (i5x4 : Int) (s5x5 : SA) (n5x5 : Nat) (i7 : Int) (h : Heap) (Q : Kont R) : TEq (L51x11 mk0 C p0 s1 n1 i5x0 i5x1 i5x2 i5x3 i5x4 s5x5 n5x5 i7 h Q) (L51x11xaux mk0 C p0 s1 n1 i5x0 i5x1 i5x2 i5x3 i5x4 s5x5 n5x5 i7 h Q) := loop_eqn C k51x11 163 35 (.g [] true (.ptr p0) :: (.g [] true (.sl s1 n1) :: (rep 3 (.box [(.int .i64 i5x0), (.int .i64 i5x1), (.int .i64 i5x2), (.int .i64 i5x3), (.int .i64 i5x4), (.sl s5x5 n5x5)] :: (.any :: (.g [] true (.int .i64 i7) :: (rep 55 []))))))) h Q (by kernel_rfl) (L51x11xaux mk0 C p0 s1 n1 i5x0 i5x1 i5x2 i5x3 i5x4 s5x5 n5x5 i7 h Q)
theorem J51x18xaux (M : Mk) (C : Cal) (p0 : Option Ad) (s1 : SA) (n1 : Nat) (i5x0 : Int) (i5x1 : Int) (i5x2 : Int) (i5x3 : Int) (i5x4 : Int) (s5x5 : SA) (n5x5 : Nat) (h : Heap) : (forceK tk (.g [] true (.ptr p0) :: (.g [] true (.sl s1 n1) :: (rep 3 (.box [(.int .i64 i5x0), (.int .i64 i5x1), (.int .i64 i5x2), (.int .i64 i5x3), (.int .i64 i5x4), (.sl s5x5 n5x5)] :: (rep 57 []))))) fun e => (seqQ (evalE M C k51x6) (endQ [.tmp 6])) .normal ⟨e, h⟩) = (
  (C 30 [(.agg [(.int .i64 i5x0), (.int .i64 i5x1), (.int .i64 i5x2), (.int .i64 i5x3), (.int .i64 i5x4), (.sl s5x5 n5x5)])] h).bind fun r28 =>
  gI .i64 (some r28.1) true fun i28 =>
  letK ((decide ((i28 : Int) = 0)) : Bool) fun b30 =>
  if b30 = true then
    (
    some ((.bool true), r28.2)
    )
  else
    (
    letK ((decide ((i5x0 : Int) = 100)) : Bool) fun b33 =>
    gI .i64 (some (.int .i64 i5x2)) b33 fun i36 =>
    letK ((!decide ((i36 : Int) = 0)) : Bool) fun b37 =>
    letK ((if b33 = true then b37 else false) : Bool) fun b38 =>
    if b38 = true then
      (
      atP p0 true fun a41 =>
      gCells (ldN r28.2 (Ad.add a41 4) 3) true fun l43 =>
      gL (l43[0]?) true fun s43x0 n43x0 =>
      gL (l43[1]?) true fun s43x1 n43x1 =>
      gI .i64 (l43[2]?) true fun i43x2 =>
      (C 49 [(.agg [(.sl s43x0 n43x0), (.sl s43x1 n43x1), (.int .i64 i43x2)]), (.int .i64 i5x2)] r28.2).bind fun r46 =>
      gI .i64 (some r46.1) true fun i46 =>
      chk (true = true → (0 : Int) ≤ i46 ∧ (i46 : Int) < ((n1 : Nat) : Int)) <|
      atP (adP s1) true fun a47 =>
      gL (ld1 r46.2 (Ad.add a47 (Int.toNat i46 * 1))) true fun s48 n48 =>
      (C 80 [(.sl s48 n48)] r46.2).bind fun r49 =>
      gL (some r49.1) true fun s49 n49 =>
      chk (true = true → (0 : Int) ≤ i28 ∧ (i28 : Int) < ((n49 : Nat) : Int)) <|
      atP (adP s49) true fun a52 =>
      (st1 r49.2 (Ad.add a52 (Int.toNat i28 * 1)) (.bool false)).bind fun h_2 =>
      J51x30 M C p0 s1 n1 i28 s49 n49 h_2
      )
    else
      (
      J51x30 M C p0 s1 n1 i28 .nil 0 r28.2
      )
    )
  ) := by kernel_rfl
theorem J51x18xeq (C : Cal) (p0 : Option Ad) (s1 : SA) (n1 : Nat) (i5x0 : Int) (i5x1 : Int) (i5x2 : Int) (i5x3 : Int) (i5x4 : Int) (s5x5 : SA) (n5x5 : Nat) (h : Heap) : TEq (J51x18 mk0 C p0 s1 n1 i5x0 i5x1 i5x2 i5x3 i5x4 s5x5 n5x5 h) (J51x18xaux mk0 C p0 s1 n1 i5x0 i5x1 i5x2 i5x3 i5x4 s5x5 n5x5 h) := join_eqn (seqQ (evalE mk0 C k51x6) (endQ [.tmp 6])) (.g [] true (.ptr p0) :: (.g [] true (.sl s1 n1) :: (rep 3 (.box [(.int .i64 i5x0), (.int .i64 i5x1), (.int .i64 i5x2), (.int .i64 i5x3), (.int .i64 i5x4), (.sl s5x5 n5x5)] :: (rep 57 []))))) h (J51x18xaux mk0 C p0 s1 n1 i5x0 i5x1 i5x2 i5x3 i5x4 s5x5 n5x5 h)
theorem J51x30xaux (M : Mk) (C : Cal) (p0 : Option Ad) (s1 : SA) (n1 : Nat) (i8 : Int) (s9 : SA) (n9 : Nat) (h : Heap) : (forceK tk (.g [] true (.ptr p0) :: (.g [] true (.sl s1 n1) :: (rep 6 (.g [] true (.int .i64 i8) :: (.g [] true (.sl s9 n9) :: (rep 53 [])))))) fun e => (seqQ (evalE M C k51x26) (endQ [.tmp 6])) .normal ⟨e, h⟩) = (
  atP p0 true fun a55 =>
  gCells (ldN h (Ad.add a55 4) 3) true fun l57 =>
  gL (l57[0]?) true fun s57x0 n57x0 =>
  gL (l57[1]?) true fun s57x1 n57x1 =>
  gI .i64 (l57[2]?) true fun i57x2 =>
  (C 49 [(.agg [(.sl s57x0 n57x0), (.sl s57x1 n57x1), (.int .i64 i57x2)]), (.int .i64 i8)] h).bind fun r59 =>
  gI .i64 (some r59.1) true fun i59 =>
  (C 48 [(.sl s1 n1), (.int .i64 i59), (.int .i64 i8), (.sl s9 n9)] r59.2).bind fun r62 =>
  gT 0 r62.1 true fun u62 =>
  some ((.bool true), r62.2)
  ) := by kernel_rfl
theorem J51x30xeq (C : Cal) (p0 : Option Ad) (s1 : SA) (n1 : Nat) (i8 : Int) (s9 : SA) (n9 : Nat) (h : Heap) : TEq (J51x30 mk0 C p0 s1 n1 i8 s9 n9 h) (J51x30xaux mk0 C p0 s1 n1 i8 s9 n9 h) := join_eqn (seqQ (evalE mk0 C k51x26) (endQ [.tmp 6])) (.g [] true (.ptr p0) :: (.g [] true (.sl s1 n1) :: (rep 6 (.g [] true (.int .i64 i8) :: (.g [] true (.sl s9 n9) :: (rep 53 [])))))) h (J51x30xaux mk0 C p0 s1 n1 i8 s9 n9 h)
theorem X51x11xe0 (M : Mk) (C : Cal) (p0 : Option Ad) (s1 : SA) (n1 : Nat) (i5x0 : Int) (i5x1 : Int) (i5x2 : Int) (i5x3 : Int) (i5x4 : Int) (s5x5 : SA) (n5x5 : Nat) (h : Heap) : Q51x11 M C (.exit 0) (S51xe0 p0 s1 n1 i5x0 i5x1 i5x2 i5x3 i5x4 s5x5 n5x5 h) = (
  J51x18 M C p0 s1 n1 i5x0 i5x1 i5x2 i5x3 i5x4 s5x5 n5x5 h
  ) := by kernel_rfl
def k17x6 : AC := .ret
def k17x5 : AC := .seq (.mask 16) k17x6
def k17x4 : AC := .mask 12
def k17x3 : AC := .seq (.cond (.tmp 10)
   (.seq (.ops false [
      ⟨(some 11), .move (.tmp 5), none, []⟩,
      ⟨(some 4), .move (.tmp 11), none, []⟩]) k17x5)
   (.skip)) k17x4
def k17x2 : AC := .seq (.ops false [
    ⟨(some 9), .move (.tmp 5), none, []⟩,
    ⟨(some 10), .bin .other .neq (.tmp 9) (.c (.int .i64 0)), none, []⟩]) k17x3
def k17x11 : AC := .ret
def k17x10 : AC := .seq (.mask 16) k17x11
def k17x9 : AC := .mask 8
def k17x8 : AC := .seq (.cond (.tmp 25)
   (.seq (.ops false [
      ⟨(some 4), .move (.c (.int .i64 3)), none, []⟩]) k17x10)
   (.skip)) k17x9
def k17x16 : AC := .ret
def k17x15 : AC := .seq (.mask 16) k17x16
def k17x14 : AC := .mask 8
def k17x13 : AC := .seq (.cond (.tmp 33)
   (.seq (.ops false [
      ⟨(some 4), .move (.c (.int .i64 2)), none, []⟩]) k17x15)
   (.skip)) k17x14
def k17x24 : AC := .exit 0
def k17x23 : AC := .mask 206158430216
def k17x32 : AC := .ret
def k17x31 : AC := .seq (.mask 16) k17x32
def k17x30 : AC := .mask 206158430280
def k17x29 : AC := .seq (.cond (.tmp 79)
   (.seq (.ops false [
      ⟨(some 4), .move (.c (.int .i64 4)), none, []⟩]) k17x31)
   (.skip)) k17x30
def k17x36 : AC := .ret
def k17x35 : AC := .seq (.mask 16) k17x36
def k17x34 : AC := .mask 206158430216
def k17x33 : AC := .seq (.cond (.tmp 93)
   (.seq (.ops false [
      ⟨(some 4), .move (.c (.int .i64 7)), none, []⟩]) k17x35)
   (.skip)) k17x34
def k17x28 : AC := .seq (.ops true [
    ⟨(some 80), .fieldAddr 0 (.tmp 3), none, []⟩,
    ⟨(some 81), .load (.cell .sl) (.tmp 80), none, []⟩,
    ⟨(some 82), .move (.tmp 6), none, []⟩,
    ⟨(some 83), .indexAddr 1 (.tmp 81) (.tmp 82), none, []⟩,
    ⟨(some 84), .load (.cell (.int .i64)) (.tmp 83), none, []⟩,
    ⟨(some 85), .bin .other .gtr (.tmp 84) (.c (.int .i64 0)), none, []⟩,
    ⟨(some 86), .move (.tmp 85), none, []⟩,
    ⟨(some 87), .fieldAddr 1 (.tmp 3), (some (86, true)), []⟩,
    ⟨(some 88), .load (.cell .sl) (.tmp 87), (some (86, true)), []⟩,
    ⟨(some 89), .move (.tmp 6), (some (86, true)), []⟩,
    ⟨(some 90), .indexAddr 1 (.tmp 88) (.tmp 89), (some (86, true)), []⟩,
    ⟨(some 91), .load (.cell (.int .i64)) (.tmp 90), (some (86, true)), []⟩,
    ⟨(some 92), .bin .other .geq (.tmp 91) (.c (.int .i64 0)), (some (86, true)), []⟩,
    ⟨(some 93), .pick (.tmp 86) (.tmp 92) (.c (.bool false)), none, []⟩]) k17x33
def k17x27 : AC := .seq (.seq (.ops true [
    ⟨(some 40), .fieldAddr 0 (.tmp 3), none, []⟩,
    ⟨(some 41), .load (.cell .sl) (.tmp 40), none, []⟩,
    ⟨(some 42), .move (.tmp 6), none, []⟩,
    ⟨(some 43), .indexAddr 1 (.tmp 41) (.tmp 42), none, []⟩,
    ⟨(some 44), .load (.cell (.int .i64)) (.tmp 43), none, []⟩,
    ⟨(some 45), .bin .other .lss (.tmp 44) (.c (.int .i64 (-1))), none, []⟩,
    ⟨(some 46), .move (.tmp 45), none, []⟩,
    ⟨(some 47), .fieldAddr 0 (.tmp 3), (some (46, false)), []⟩,
    ⟨(some 48), .load (.cell .sl) (.tmp 47), (some (46, false)), []⟩,
    ⟨(some 49), .move (.tmp 6), (some (46, false)), []⟩,
    ⟨(some 50), .indexAddr 1 (.tmp 48) (.tmp 49), (some (46, false)), []⟩,
    ⟨(some 51), .load (.cell (.int .i64)) (.tmp 50), (some (46, false)), []⟩,
    ⟨(some 52), .bin .other .eql (.tmp 51) (.c (.int .i64 0)), (some (46, false)), []⟩,
    ⟨(some 53), .pick (.tmp 46) (.c (.bool true)) (.tmp 52), none, []⟩,
    ⟨(some 54), .move (.tmp 53), none, []⟩,
    ⟨(some 55), .fieldAddr 0 (.tmp 3), (some (54, false)), []⟩,
    ⟨(some 56), .load (.cell .sl) (.tmp 55), (some (54, false)), []⟩,
    ⟨(some 57), .move (.tmp 6), (some (54, false)), []⟩,
    ⟨(some 58), .indexAddr 1 (.tmp 56) (.tmp 57), (some (54, false)), []⟩,
    ⟨(some 59), .load (.cell (.int .i64)) (.tmp 58), (some (54, false)), []⟩,
    ⟨(some 60), .bin .other .gtr (.tmp 59) (.c (.int .i64 10)), (some (54, false)), []⟩,
    ⟨(some 61), .pick (.tmp 54) (.c (.bool true)) (.tmp 60), none, []⟩,
    ⟨(some 62), .move (.tmp 61), none, []⟩,
    ⟨(some 63), .fieldAddr 1 (.tmp 3), (some (62, false)), []⟩,
    ⟨(some 64), .load (.cell .sl) (.tmp 63), (some (62, false)), []⟩,
    ⟨(some 65), .move (.tmp 6), (some (62, false)), []⟩,
    ⟨(some 66), .indexAddr 1 (.tmp 64) (.tmp 65), (some (62, false)), []⟩,
    ⟨(some 67), .load (.cell (.int .i64)) (.tmp 66), (some (62, false)), []⟩,
    ⟨(some 68), .bin .other .lss (.tmp 67) (.c (.int .i64 (-1))), (some (62, false)), []⟩,
    ⟨(some 69), .pick (.tmp 62) (.c (.bool true)) (.tmp 68), none, []⟩,
    ⟨(some 70), .move (.tmp 69), none, []⟩,
    ⟨(some 71), .fieldAddr 1 (.tmp 3), (some (70, false)), []⟩,
    ⟨(some 72), .load (.cell .sl) (.tmp 71), (some (70, false)), []⟩,
    ⟨(some 73), .move (.tmp 6), (some (70, false)), []⟩,
    ⟨(some 74), .indexAddr 1 (.tmp 72) (.tmp 73), (some (70, false)), []⟩,
    ⟨(some 75), .load (.cell (.int .i64)) (.tmp 74), (some (70, false)), []⟩,
    ⟨(some 76), .fieldAddr 2 (.tmp 3), (some (70, false)), []⟩,
    ⟨(some 77), .load (.cell (.int .i64)) (.tmp 76), (some (70, false)), []⟩,
    ⟨(some 78), .bin .other .geq (.tmp 75) (.tmp 77), (some (70, false)), []⟩,
    ⟨(some 79), .pick (.tmp 70) (.c (.bool true)) (.tmp 78), none, []⟩]) k17x29) k17x28
def k17x26 : AC := .mask 206158430216
def k17x25 : AC := .ops false [
    ⟨(some 94), .bin .other .add (.tmp 37) (.c (.int .i64 1)), none, []⟩,
    ⟨(some 37), .move (.tmp 94), none, []⟩]
def k17x22 : AC := .seq (.seq (.block 1 (.seq (.ops false [
     ⟨(some 39), .move (.tmp 37), none, []⟩,
     ⟨(some 6), .move (.tmp 39), none, []⟩]) k17x27)) k17x26) k17x25
def k17x21 : AC := .seq (.seq (.cond (.tmp 38)
   (.skip)
   (.seq (.mask 0) k17x24)) k17x23) k17x22
def k17x20 : AC := .seq (.ops false [
    ⟨(some 38), .bin .other .lss (.tmp 37) (.tmp 36), none, []⟩]) k17x21
def k17x19 : AC := .mask 0
def k17x18 : AC := .seq (.block 0 (.loop 206158430216 0 k17x20)) k17x19
def k17x38 : AC := .ret
def k17x37 : AC := .seq (.mask 16) k17x38
def k17x17 : AC := .seq (.ops false [
    ⟨(some 4), .move (.c (.int .i64 0)), none, []⟩]) k17x37
def k17x12 : AC := .seq (.seq (.ops false [
    ⟨(some 34), .fieldAddr 0 (.tmp 3), none, []⟩,
    ⟨(some 35), .load (.cell .sl) (.tmp 34), none, []⟩,
    ⟨(some 36), .lenSl (.tmp 35), none, []⟩,
    ⟨(some 37), .move (.c (.int .i64 0)), none, []⟩]) k17x18) k17x17
def k17x7 : AC := .seq (.seq (.ops true [
    ⟨(some 26), .fieldAddr 2 (.tmp 3), none, []⟩,
    ⟨(some 27), .load (.cell (.int .i64)) (.tmp 26), none, []⟩,
    ⟨(some 28), .bin .other .lss (.tmp 27) (.c (.int .i64 0)), none, []⟩,
    ⟨(some 29), .move (.tmp 28), none, []⟩,
    ⟨(some 30), .fieldAddr 2 (.tmp 3), (some (29, false)), []⟩,
    ⟨(some 31), .load (.cell (.int .i64)) (.tmp 30), (some (29, false)), []⟩,
    ⟨(some 32), .bin .other .gtr (.tmp 31) (.c (.int .i64 8192)), (some (29, false)), []⟩,
    ⟨(some 33), .pick (.tmp 29) (.c (.bool true)) (.tmp 32), none, []⟩]) k17x13) k17x12
def k17x1 : AC := .seq (.seq (.ops true [
    ⟨(some 12), .fieldAddr 0 (.tmp 3), none, []⟩,
    ⟨(some 13), .load (.cell .sl) (.tmp 12), none, []⟩,
    ⟨(some 14), .lenSl (.tmp 13), none, []⟩,
    ⟨(some 15), .fieldAddr 2 (.tmp 2), none, []⟩,
    ⟨(some 16), .load (.cell (.int .i64)) (.tmp 15), none, []⟩,
    ⟨(some 17), .bin .other .neq (.tmp 14) (.tmp 16), none, []⟩,
    ⟨(some 18), .move (.tmp 17), none, []⟩,
    ⟨(some 19), .fieldAddr 1 (.tmp 3), (some (18, false)), []⟩,
    ⟨(some 20), .load (.cell .sl) (.tmp 19), (some (18, false)), []⟩,
    ⟨(some 21), .lenSl (.tmp 20), (some (18, false)), []⟩,
    ⟨(some 22), .fieldAddr 2 (.tmp 2), (some (18, false)), []⟩,
    ⟨(some 23), .load (.cell (.int .i64)) (.tmp 22), (some (18, false)), []⟩,
    ⟨(some 24), .bin .other .neq (.tmp 21) (.tmp 23), (some (18, false)), []⟩,
    ⟨(some 25), .pick (.tmp 18) (.c (.bool true)) (.tmp 24), none, []⟩]) k17x8) k17x7
def k17x0 : AC := .seq (.seq (.ops false [
    ⟨(some 7), .load (.agg [(.int .i64), .sl, (.int .i64), .sl]) (.tmp 2), none, []⟩,
    ⟨(some 8), .call 26 [(.tmp 7)] [(.cell (.int .i64))] (.int .i64 0), none, []⟩,
    ⟨(some 5), .move (.tmp 8), none, []⟩]) k17x2) k17x1
/-- provenance/alloccheck.Check -/
def c17 : AFn := ⟨95, [.tmp 4],
  .seq (.ops false [
    ⟨(some 2), .boxL (.tmp 0), none, []⟩,
    ⟨(some 3), .boxL (.tmp 1), none, []⟩,
    ⟨(some 4), .move (.c (.int .i64 0)), none, []⟩]) k17x0⟩
def S17xr (i4 : Int) (h : Heap) : St := ⟨(rep 4 (.g [] true (.int .i64 i4) :: (rep 90 []))), h⟩
def S17xe0 (h : Heap) : St := ⟨(rep 95 []), h⟩
noncomputable def Q17x20 (M : Mk) (C : Cal) : Kont (AV × Heap) := (blockQ 0 (seqQ (evalE M C k17x19) (seqQ (evalE M C k17x17) (endQ [.tmp 4]))))
noncomputable def L17x20 (s3x0 : SA) (n3x0 : Nat) (s3x1 : SA) (n3x1 : Nat) (i3x2 : Int) (i36 : Int) (i37 : Int) (h : Heap) (Q : Kont R) : Option R := loopE (evalE M C k17x20) 206158430216 0 ⟨(rep 3 (.box [(.sl s3x0 n3x0), (.sl s3x1 n3x1), (.int .i64 i3x2)] :: (rep 32 (.g [] true (.int .i64 i36) :: (.g [] true (.int .i64 i37) :: (rep 57 [])))))), h⟩ Q
theorem r17 (i0x0 : Int) (s0x1 : SA) (n0x1 : Nat) (i0x2 : Int) (s0x3 : SA) (n0x3 : Nat) (s1x0 : SA) (n1x0 : Nat) (s1x1 : SA) (n1x1 : Nat) (i1x2 : Int) (h : Heap) : runE M C c17 [(.agg [(.int .i64 i0x0), (.sl s0x1 n0x1), (.int .i64 i0x2), (.sl s0x3 n0x3)]), (.agg [(.sl s1x0 n1x0), (.sl s1x1 n1x1), (.int .i64 i1x2)])] h = (
  (C 26 [(.agg [(.int .i64 i0x0), (.sl s0x1 n0x1), (.int .i64 i0x2), (.sl s0x3 n0x3)])] h).bind fun r8 =>
  gI .i64 (some r8.1) true fun i8 =>
  letK ((!decide ((i8 : Int) = 0)) : Bool) fun b10 =>
  if b10 = true then
    (
    some ((.int .i64 i8), r8.2)
    )
  else
    (
    letK ((!decide ((((n1x0 : Nat) : Int) : Int) = i0x2)) : Bool) fun b17 =>
    gL (some (.sl s1x1 n1x1)) (!b17) fun s20 n20 =>
    gI .i64 (some (.int .i64 i0x2)) (!b17) fun i23 =>
    letK ((!decide ((((n20 : Nat) : Int) : Int) = i23)) : Bool) fun b24 =>
    letK ((if b17 = true then true else b24) : Bool) fun b25 =>
    if b25 = true then
      (
      some ((.int .i64 3), r8.2)
      )
    else
      (
      letK ((decide ((i1x2 : Int) < 0)) : Bool) fun b28 =>
      gI .i64 (some (.int .i64 i1x2)) (!b28) fun i31 =>
      letK ((decide ((8192 : Int) < i31)) : Bool) fun b32 =>
      letK ((if b28 = true then true else b32) : Bool) fun b33 =>
      if b33 = true then
        (
        some ((.int .i64 2), r8.2)
        )
      else
        (
        L17x20 M C s1x0 n1x0 s1x1 n1x1 i1x2 ((n1x0 : Nat) : Int) 0 r8.2 (Q17x20 M C)
        )
      )
    )
  ) := by kernel_rfl
theorem cf17 : cFn Try.prog 17 = some c17 := by kernel_rfl
theorem e17 (i0x0 : Int) (s0x1 : SA) (n0x1 : Nat) (i0x2 : Int) (s0x3 : SA) (n0x3 : Nat) (s1x0 : SA) (n1x0 : Nat) (s1x1 : SA) (n1x1 : Nat) (i1x2 : Int) (h : Heap) : TEq (E 17 [(.agg [(.int .i64 i0x0), (.sl s0x1 n0x1), (.int .i64 i0x2), (.sl s0x3 n0x3)]), (.agg [(.sl s1x0 n1x0), (.sl s1x1 n1x1), (.int .i64 i1x2)])] h) (r17 mk0 E i0x0 s0x1 n0x1 i0x2 s0x3 n0x3 s1x0 n1x0 s1x1 n1x1 i1x2 h) := (EV_eq (P := Try.prog) (T := T0) rfl cf17 [(.agg [(.int .i64 i0x0), (.sl s0x1 n0x1), (.int .i64 i0x2), (.sl s0x3 n0x3)]), (.agg [(.sl s1x0 n1x0), (.sl s1x1 n1x1), (.int .i64 i1x2)])] h).trans (r17 mk0 E i0x0 s0x1 n0x1 i0x2 s0x3 n0x3 s1x0 n1x0 s1x1 n1x1 i1x2 h)
theorem L17x20xaux (s3x0 : SA) (n3x0 : Nat) (s3x1 : SA) (n3x1 : Nat) (i3x2 : Int) (i36 : Int) (i37 : Int) (h : Heap) (Q : Kont R) : (restrF 206158430216 ⟨(rep 3 (.box [(.sl s3x0 n3x0), (.sl s3x1 n3x1), (.int .i64 i3x2)] :: (rep 32 (.g [] true (.int .i64 i36) :: (.g [] true (.int .i64 i37) :: (rep 57 [])))))), h⟩ fun σ => evalE M C k17x20 σ (roundQ M C k17x20 206158430216 0 Q)) = (
  letK ((decide ((i37 : Int) < i36)) : Bool) fun b38 =>
  if b38 = true then
    (
    chk (true = true → (0 : Int) ≤ i37 ∧ (i37 : Int) < ((n3x0 : Nat) : Int)) <|
    atP (adP s3x0) true fun a43 =>
    gI .i64 (ld1 h (Ad.add a43 (Int.toNat i37 * 1))) true fun i44 =>
    letK ((decide ((i44 : Int) < (-1))) : Bool) fun b45 =>
    gL (some (.sl s3x0 n3x0)) (!b45) fun s48 n48 =>
    chk ((!b45) = true → (0 : Int) ≤ i37 ∧ (i37 : Int) < ((n48 : Nat) : Int)) <|
    atP (adP s48) (!b45) fun a50 =>
    atP (some (Ad.add a50 (Int.toNat i37 * 1))) (!b45) fun a51 =>
    gI .i64 (ld1 h a51) (!b45) fun i51 =>
    letK ((decide ((i51 : Int) = 0)) : Bool) fun b52 =>
    letK ((if b45 = true then true else b52) : Bool) fun b53 =>
    gL (some (.sl s3x0 n3x0)) (!b53) fun s56 n56 =>
    chk ((!b53) = true → (0 : Int) ≤ i37 ∧ (i37 : Int) < ((n56 : Nat) : Int)) <|
    atP (adP s56) (!b53) fun a58 =>
    atP (some (Ad.add a58 (Int.toNat i37 * 1))) (!b53) fun a59 =>
    gI .i64 (ld1 h a59) (!b53) fun i59 =>
    letK ((decide ((10 : Int) < i59)) : Bool) fun b60 =>
    letK ((if b53 = true then true else b60) : Bool) fun b61 =>
    gL (some (.sl s3x1 n3x1)) (!b61) fun s64 n64 =>
    chk ((!b61) = true → (0 : Int) ≤ i37 ∧ (i37 : Int) < ((n64 : Nat) : Int)) <|
    atP (adP s64) (!b61) fun a66 =>
    atP (some (Ad.add a66 (Int.toNat i37 * 1))) (!b61) fun a67 =>
    gI .i64 (ld1 h a67) (!b61) fun i67 =>
    letK ((decide ((i67 : Int) < (-1))) : Bool) fun b68 =>
    letK ((if b61 = true then true else b68) : Bool) fun b69 =>
    gL (some (.sl s3x1 n3x1)) (!b69) fun s72 n72 =>
    chk ((!b69) = true → (0 : Int) ≤ i37 ∧ (i37 : Int) < ((n72 : Nat) : Int)) <|
    atP (adP s72) (!b69) fun a74 =>
    atP (some (Ad.add a74 (Int.toNat i37 * 1))) (!b69) fun a75 =>
    gI .i64 (ld1 h a75) (!b69) fun i75 =>
    gI .i64 (some (.int .i64 i3x2)) (!b69) fun i77 =>
    letK ((decide ((i77 : Int) ≤ i75)) : Bool) fun b78 =>
    letK ((if b69 = true then true else b78) : Bool) fun b79 =>
    if b79 = true then
      (
      Q .ret (S17xr 4 h)
      )
    else
      (
      chk (true = true → (0 : Int) ≤ i37 ∧ (i37 : Int) < ((n3x0 : Nat) : Int)) <|
      atP (adP s3x0) true fun a83 =>
      gI .i64 (ld1 h (Ad.add a83 (Int.toNat i37 * 1))) true fun i84 =>
      letK ((decide ((0 : Int) < i84)) : Bool) fun b85 =>
      gL (some (.sl s3x1 n3x1)) b85 fun s88 n88 =>
      chk (b85 = true → (0 : Int) ≤ i37 ∧ (i37 : Int) < ((n88 : Nat) : Int)) <|
      atP (adP s88) b85 fun a90 =>
      atP (some (Ad.add a90 (Int.toNat i37 * 1))) b85 fun a91 =>
      gI .i64 (ld1 h a91) b85 fun i91 =>
      letK ((decide ((0 : Int) ≤ i91)) : Bool) fun b92 =>
      letK ((if b85 = true then b92 else false) : Bool) fun b93 =>
      if b93 = true then
        (
        Q .ret (S17xr 7 h)
        )
      else
        (
        letK ((IntKind.wrap .i64 (i37 + 1)) : Int) fun i94 =>
        L17x20 M C s3x0 n3x0 s3x1 n3x1 i3x2 i36 i94 h Q
        )
      )
    )
  else
    (
    Q (.exit 0) (S17xe0 h)
    )
  ) := by kernel_rfl
theorem L17x20xeq (s3x0 : SA) (n3x0 : Nat) (s3x1 : SA) (n3x1 : Nat) (i3x2 : Int) (i36 : Int) (i37 : Int) (h : Heap) (Q : Kont R) : TEq (L17x20 mk0 C s3x0 n3x0 s3x1 n3x1 i3x2 i36 i37 h Q) (L17x20xaux mk0 C s3x0 n3x0 s3x1 n3x1 i3x2 i36 i37 h Q) := loop_eqn C k17x20 206158430216 0 (rep 3 (.box [(.sl s3x0 n3x0), (.sl s3x1 n3x1), (.int .i64 i3x2)] :: (rep 32 (.g [] true (.int .i64 i36) :: (.g [] true (.int .i64 i37) :: (rep 57 [])))))) h Q (by kernel_rfl) (L17x20xaux mk0 C s3x0 n3x0 s3x1 n3x1 i3x2 i36 i37 h Q)
theorem X17x20xr (M : Mk) (C : Cal) (i4 : Int) (h : Heap) : Q17x20 M C .ret (S17xr i4 h) = (
  some ((.int .i64 i4), h)
  ) := by kernel_rfl
theorem X17x20xe0 (M : Mk) (C : Cal) (h : Heap) : Q17x20 M C (.exit 0) (S17xe0 h) = (
  some ((.int .i64 0), h)
  ) := by kernel_rfl
def k16x6 : AC := .ret
def k16x5 : AC := .seq (.mask 16) k16x6
def k16x4 : AC := .mask 12
def k16x3 : AC := .seq (.cond (.tmp 22)
   (.seq (.ops false [
      ⟨(some 23), .move (.tmp 5), none, []⟩,
      ⟨(some 4), .move (.tmp 23), none, []⟩]) k16x5)
   (.skip)) k16x4
def k16x2 : AC := .seq (.ops false [
    ⟨(some 21), .move (.tmp 5), none, []⟩,
    ⟨(some 22), .bin .other .neq (.tmp 21) (.c (.int .i64 0)), none, []⟩]) k16x3
def k16x18 : AC := .exit 0
def k16x17 : AC := .mask 30786325578060
def k16x21 : AC := .ops false [
    ⟨(some 48), .move (.tmp 8), none, []⟩,
    ⟨(some 49), .indexAddr 1 (.tmp 48) (.c (.int .i64 0)), none, []⟩,
    ⟨(some 50), .load (.cell .sl) (.tmp 49), none, []⟩,
    ⟨(some 51), .load (.agg [.sl, .sl, (.int .i64)]) (.tmp 3), none, []⟩,
    ⟨(some 52), .move (.tmp 10), none, []⟩,
    ⟨(some 54), .move (.tmp 10), none, []⟩,
    ⟨(some 53), .call 49 [(.tmp 51), (.tmp 52)] [(.cell (.int .i64))] (.int .i64 0), none, [.load 1 49 none]⟩,
    ⟨(some 55), .call 48 [(.tmp 50), (.tmp 53), (.tmp 54), (.c (.sl .nil 0))] [] .opq, none, []⟩]
def k16x20 : AC := .mask 30786325578060
def k16x19 : AC := .ops false [
    ⟨(some 56), .bin .other .add (.tmp 44) (.c (.int .i64 1)), none, []⟩,
    ⟨(some 44), .move (.tmp 56), none, []⟩]
def k16x16 : AC := .seq (.seq (.block 1 (.seq (.ops false [
     ⟨(some 46), .indexAddr 1 (.tmp 42) (.tmp 44), none, []⟩,
     ⟨(some 47), .load (.cell (.int .i64)) (.tmp 46), none, []⟩,
     ⟨(some 10), .move (.tmp 47), none, []⟩]) k16x21)) k16x20) k16x19
def k16x15 : AC := .seq (.seq (.cond (.tmp 45)
   (.skip)
   (.seq (.mask 324) k16x18)) k16x17) k16x16
def k16x14 : AC := .seq (.ops false [
    ⟨(some 45), .bin .other .lss (.tmp 44) (.tmp 43), none, []⟩]) k16x15
def k16x13 : AC := .mask 324
def k16x12 : AC := .seq (.block 0 (.loop 30786325578060 324 k16x14)) k16x13
def k16x29 : AC := .exit 2
def k16x28 : AC := .mask 2372
def k16x27 : AC := .seq (.cond (.tmp 60)
   (.skip)
   (.seq (.mask 0) k16x29)) k16x28
def k16x41 : AC := .exit 4
def k16x40 : AC := .mask 33849922949209616891787588
def k16x48 : AC := .ret
def k16x47 : AC := .seq (.mask 16) k16x48
def k16x46 : AC := .mask 33849922949209616891787588
def k16x45 : AC := .seq (.cond (.tmp 92)
   (.seq (.ops false [
      ⟨(some 4), .move (.c (.int .i64 14)), none, []⟩]) k16x47)
   (.skip)) k16x46
def k16x44 : AC := .seq (.ops false [
    ⟨(some 88), .move (.tmp 6), none, []⟩,
    ⟨(some 89), .move (.tmp 13), none, []⟩,
    ⟨(some 90), .load (.agg [(.int .i64), (.int .i64), (.int .i64), (.int .i64), (.int .i64), .sl]) (.tmp 15), none, []⟩,
    ⟨(some 91), .call 51 [(.tmp 88), (.tmp 89), (.tmp 90)] [(.cell .bool)] (.bool false), none, []⟩,
    ⟨(some 92), .un .not (.tmp 91), none, []⟩]) k16x45
def k16x43 : AC := .mask 33849922949209616891787588
def k16x42 : AC := .ops false [
    ⟨(some 93), .bin .other .add (.tmp 84) (.c (.int .i64 1)), none, []⟩,
    ⟨(some 84), .move (.tmp 93), none, []⟩]
def k16x39 : AC := .seq (.seq (.block 5 (.seq (.ops false [
     ⟨(some 86), .indexAddr 6 (.tmp 82) (.tmp 84), none, []⟩,
     ⟨(some 87), .load (.agg [(.int .i64), (.int .i64), (.int .i64), (.int .i64), (.int .i64), .sl]) (.tmp 86), none, []⟩,
     ⟨(some 15), .allocL [(.int .i64 0), (.int .i64 0), (.int .i64 0), (.int .i64 0), (.int .i64 0), (.sl .nil 0)], none, []⟩,
     ⟨none, .store 6 (.tmp 15) (.tmp 87), none, []⟩]) k16x44)) k16x43) k16x42
def k16x38 : AC := .seq (.seq (.cond (.tmp 85)
   (.skip)
   (.seq (.mask 14660) k16x41)) k16x40) k16x39
def k16x37 : AC := .seq (.ops false [
    ⟨(some 85), .bin .other .lss (.tmp 84) (.tmp 83), none, []⟩]) k16x38
def k16x36 : AC := .mask 14660
def k16x35 : AC := .seq (.block 4 (.loop 33849922949209616891787588 14660 k16x37)) k16x36
def k16x53 : AC := .ret
def k16x52 : AC := .seq (.mask 16) k16x53
def k16x51 : AC := .mask 14660
def k16x50 : AC := .seq (.cond (.tmp 104)
   (.seq (.ops false [
      ⟨(some 4), .move (.c (.int .i64 14)), none, []⟩]) k16x52)
   (.skip)) k16x51
def k16x60 : AC := .exit 6
def k16x59 : AC := .mask 18173039004871896699856737152280900
def k16x70 : AC := .exit 7
def k16x69 : AC := .mask 18173039004871896699856737152411972
def k16x68 : AC := .seq (.cond (.tmp 128)
   (.seq (.mask 18173039004871896699856737152280900) k16x70)
   (.skip)) k16x69
def k16x67 : AC := .join 18173039004871896699856737152411972
def k16x66 : AC := .seq (.cond (.tmp 117)
   (.ops false [
      ⟨(some 123), .move (.tmp 8), none, []⟩,
      ⟨(some 124), .move (.tmp 17), none, []⟩,
      ⟨(some 125), .move (.tmp 13), none, []⟩,
      ⟨(some 126), .call 50 [(.tmp 125)] [(.cell .sl)] (.sl .nil 0), none, []⟩,
      ⟨(some 127), .indexAddr 1 (.tmp 123) (.tmp 124), none, []⟩,
      ⟨none, .store 1 (.tmp 127) (.tmp 126), none, []⟩])
   (.seq (.ops false [
      ⟨(some 129), .move (.tmp 8), none, []⟩,
      ⟨(some 130), .move (.tmp 17), none, []⟩,
      ⟨(some 131), .indexAddr 1 (.tmp 129) (.tmp 130), none, []⟩,
      ⟨(some 132), .load (.cell .sl) (.tmp 131), none, []⟩,
      ⟨(some 133), .move (.tmp 13), none, []⟩,
      ⟨(some 134), .call 53 [(.tmp 132), (.tmp 133)] [(.cell .bool)] (.bool false), none, []⟩,
      ⟨(some 135), .un .not (.tmp 134), none, []⟩,
      ⟨(some 128), .move (.tmp 135), none, []⟩]) k16x68)) k16x67
def k16x65 : AC := .mask 18173039004871896699856737152411972
def k16x64 : AC := .ops false [
    ⟨(some 136), .move (.tmp 11), none, []⟩,
    ⟨(some 137), .move (.tmp 17), none, []⟩,
    ⟨(some 138), .buildSl [(.int .i64 0)] 1 [(0, (.tmp 137))], none, []⟩,
    ⟨(some 139), .append [(.int .i64 0)] 1 8 (.tmp 136) (.tmp 138), none, []⟩,
    ⟨(some 11), .move (.tmp 139), none, []⟩]
def k16x63 : AC := .seq (.seq (.block 8 (.seq (.ops false [
     ⟨(some 118), .move (.tmp 8), none, []⟩,
     ⟨(some 119), .move (.tmp 17), none, []⟩,
     ⟨(some 120), .indexAddr 1 (.tmp 118) (.tmp 119), none, []⟩,
     ⟨(some 121), .load (.cell .sl) (.tmp 120), none, []⟩,
     ⟨(some 122), .bin .sl .eql (.tmp 121) (.c (.sl .nil 0)), none, []⟩,
     ⟨(some 117), .move (.tmp 122), none, []⟩]) k16x66)) k16x65) k16x64
def k16x62 : AC := .join 18173039004871896699856737152280900
def k16x61 : AC := .ops false [
    ⟨(some 140), .bin .other .add (.tmp 113) (.c (.int .i64 1)), none, []⟩,
    ⟨(some 113), .move (.tmp 140), none, []⟩]
def k16x58 : AC := .seq (.seq (.block 7 (.seq (.ops false [
     ⟨(some 115), .indexAddr 1 (.tmp 111) (.tmp 113), none, []⟩,
     ⟨(some 116), .load (.cell (.int .i64)) (.tmp 115), none, []⟩,
     ⟨(some 17), .move (.tmp 116), none, []⟩]) k16x63)) k16x62) k16x61
def k16x57 : AC := .seq (.seq (.cond (.tmp 114)
   (.skip)
   (.seq (.mask 2372) k16x60)) k16x59) k16x58
def k16x56 : AC := .seq (.ops false [
    ⟨(some 114), .bin .other .lss (.tmp 113) (.tmp 112), none, []⟩]) k16x57
def k16x55 : AC := .mask 2372
def k16x54 : AC := .seq (.block 6 (.loop 18173039004871896699856737152280900 2372 k16x56)) k16x55
def k16x49 : AC := .seq (.ops false [
    ⟨(some 105), .fieldAddr 3 (.tmp 2), none, []⟩,
    ⟨(some 106), .load (.cell .sl) (.tmp 105), none, []⟩,
    ⟨(some 107), .move (.tmp 12), none, []⟩,
    ⟨(some 108), .indexAddr 7 (.tmp 106) (.tmp 107), none, []⟩,
    ⟨(some 109), .fieldAddr 1 (.tmp 108), none, []⟩,
    ⟨(some 110), .fieldAddr 5 (.tmp 109), none, []⟩,
    ⟨(some 111), .load (.cell .sl) (.tmp 110), none, []⟩,
    ⟨(some 112), .lenSl (.tmp 111), none, []⟩,
    ⟨(some 113), .move (.c (.int .i64 0)), none, []⟩]) k16x54
def k16x34 : AC := .seq (.seq (.ops false [
    ⟨(some 94), .move (.tmp 6), none, []⟩,
    ⟨(some 95), .move (.tmp 13), none, []⟩,
    ⟨(some 96), .fieldAddr 3 (.tmp 2), none, []⟩,
    ⟨(some 97), .load (.cell .sl) (.tmp 96), none, []⟩,
    ⟨(some 98), .move (.tmp 12), none, []⟩,
    ⟨(some 99), .indexAddr 7 (.tmp 97) (.tmp 98), none, []⟩,
    ⟨(some 100), .fieldAddr 1 (.tmp 99), none, []⟩,
    ⟨(some 101), .load (.agg [(.int .i64), (.int .i64), (.int .i64), (.int .i64), (.int .i64), .sl]) (.tmp 100), none, []⟩,
    ⟨(some 102), .call 31 [(.tmp 101)] [(.cell .sl)] (.sl .nil 0), none, []⟩,
    ⟨(some 103), .call 52 [(.tmp 94), (.tmp 95), (.tmp 102)] [(.cell .bool)] (.bool false), none, []⟩,
    ⟨(some 104), .un .not (.tmp 103), none, []⟩]) k16x50) k16x49
def k16x33 : AC := .seq (.seq (.ops false [
    ⟨(some 77), .fieldAddr 3 (.tmp 2), none, []⟩,
    ⟨(some 78), .load (.cell .sl) (.tmp 77), none, []⟩,
    ⟨(some 79), .move (.tmp 12), none, []⟩,
    ⟨(some 80), .indexAddr 7 (.tmp 78) (.tmp 79), none, []⟩,
    ⟨(some 81), .fieldAddr 0 (.tmp 80), none, []⟩,
    ⟨(some 82), .load (.cell .sl) (.tmp 81), none, []⟩,
    ⟨(some 83), .lenSl (.tmp 82), none, []⟩,
    ⟨(some 84), .move (.c (.int .i64 0)), none, []⟩]) k16x35) k16x34
def k16x32 : AC := .seq (.ops false [
    ⟨(some 72), .move (.tmp 8), none, []⟩,
    ⟨(some 73), .move (.tmp 12), none, []⟩,
    ⟨(some 74), .indexAddr 1 (.tmp 72) (.tmp 73), none, []⟩,
    ⟨(some 75), .load (.cell .sl) (.tmp 74), none, []⟩,
    ⟨(some 76), .call 50 [(.tmp 75)] [(.cell .sl)] (.sl .nil 0), none, []⟩,
    ⟨(some 13), .move (.tmp 76), none, []⟩]) k16x33
def k16x31 : AC := .seq (.ops false [
    ⟨(some 67), .move (.tmp 11), none, []⟩,
    ⟨(some 68), .move (.tmp 11), none, []⟩,
    ⟨(some 69), .lenSl (.tmp 68), none, []⟩,
    ⟨(some 70), .bin .other .sub (.tmp 69) (.c (.int .i64 1)), none, []⟩,
    ⟨(some 71), .slice 1 (.tmp 67) none (some (.tmp 70)), none, []⟩,
    ⟨(some 11), .move (.tmp 71), none, []⟩]) k16x32
def k16x30 : AC := .mask 2372
def k16x26 : AC := .seq (.block 3 (.seq (.ops false [
     ⟨(some 61), .move (.tmp 11), none, []⟩,
     ⟨(some 62), .move (.tmp 11), none, []⟩,
     ⟨(some 63), .lenSl (.tmp 62), none, []⟩,
     ⟨(some 64), .bin .other .sub (.tmp 63) (.c (.int .i64 1)), none, []⟩,
     ⟨(some 65), .indexAddr 1 (.tmp 61) (.tmp 64), none, []⟩,
     ⟨(some 66), .load (.cell (.int .i64)) (.tmp 65), none, []⟩,
     ⟨(some 12), .move (.tmp 66), none, []⟩]) k16x31)) k16x30
def k16x25 : AC := .seq (.seq (.ops false [
    ⟨(some 58), .move (.tmp 11), none, []⟩,
    ⟨(some 59), .lenSl (.tmp 58), none, []⟩,
    ⟨(some 60), .bin .other .gtr (.tmp 59) (.c (.int .i64 0)), none, []⟩]) k16x27) k16x26
def k16x24 : AC := .mask 0
def k16x74 : AC := .ret
def k16x73 : AC := .seq (.mask 16) k16x74
def k16x23 : AC := .seq (.ops false [
    ⟨(some 4), .move (.c (.int .i64 0)), none, []⟩]) k16x73
def k16x22 : AC := .seq (.seq (.block 2 (.loop 2372 0 k16x25)) k16x24) k16x23
def k16x11 : AC := .seq (.ops false [
    ⟨(some 57), .buildSl [(.int .i64 0)] 1 [(0, (.c (.int .i64 0)))], none, []⟩,
    ⟨(some 11), .move (.tmp 57), none, []⟩]) k16x22
def k16x10 : AC := .seq (.seq (.ops false [
    ⟨(some 41), .fieldAddr 1 (.tmp 2), none, []⟩,
    ⟨(some 42), .load (.cell .sl) (.tmp 41), none, []⟩,
    ⟨(some 43), .lenSl (.tmp 42), none, []⟩,
    ⟨(some 44), .move (.c (.int .i64 0)), none, []⟩]) k16x12) k16x11
def k16x9 : AC := .seq (.ops false [
    ⟨(some 35), .move (.tmp 8), none, []⟩,
    ⟨(some 36), .move (.tmp 7), none, []⟩,
    ⟨(some 37), .fieldAddr 2 (.tmp 2), none, []⟩,
    ⟨(some 38), .load (.cell (.int .i64)) (.tmp 37), none, []⟩,
    ⟨(some 39), .call 47 [(.tmp 36), (.tmp 38)] [(.cell .sl)] (.sl .nil 0), none, []⟩,
    ⟨(some 40), .indexAddr 1 (.tmp 35) (.c (.int .i64 0)), none, []⟩,
    ⟨none, .store 1 (.tmp 40) (.tmp 39), none, []⟩]) k16x10
def k16x8 : AC := .seq (.ops false [
    ⟨(some 31), .fieldAddr 3 (.tmp 2), none, []⟩,
    ⟨(some 32), .load (.cell .sl) (.tmp 31), none, []⟩,
    ⟨(some 33), .lenSl (.tmp 32), none, []⟩,
    ⟨(some 34), .makeSl [(.sl .nil 0)] 24 (.tmp 33) (.tmp 33), none, []⟩,
    ⟨(some 8), .move (.tmp 34), none, []⟩]) k16x9
def k16x7 : AC := .seq (.ops false [
    ⟨(some 28), .fieldAddr 2 (.tmp 3), none, []⟩,
    ⟨(some 29), .load (.cell (.int .i64)) (.tmp 28), none, []⟩,
    ⟨(some 30), .bin .other .add (.c (.int .i64 11)) (.tmp 29), none, []⟩,
    ⟨(some 7), .move (.tmp 30), none, []⟩]) k16x8
def k16x1 : AC := .seq (.ops false [
    ⟨(some 24), .load (.agg [(.int .i64), .sl, (.int .i64), .sl]) (.tmp 2), none, []⟩,
    ⟨(some 25), .load (.agg [.sl, .sl, (.int .i64)]) (.tmp 3), none, []⟩,
    ⟨(some 26), .build [(.int .i64 0), (.sl .nil 0), (.int .i64 0), (.sl .nil 0), (.sl .nil 0), (.sl .nil 0), (.int .i64 0)] [(0, 4, (.tmp 24)), (4, 3, (.tmp 25))], none, []⟩,
    ⟨(some 27), .boxH (.tmp 26), none, []⟩,
    ⟨(some 6), .move (.tmp 27), none, []⟩]) k16x7
def k16x0 : AC := .seq (.seq (.ops false [
    ⟨(some 18), .load (.agg [(.int .i64), .sl, (.int .i64), .sl]) (.tmp 2), none, []⟩,
    ⟨(some 19), .load (.agg [.sl, .sl, (.int .i64)]) (.tmp 3), none, []⟩,
    ⟨(some 20), .call 17 [(.tmp 18), (.tmp 19)] [(.cell (.int .i64))] (.int .i64 0), none, []⟩,
    ⟨(some 5), .move (.tmp 20), none, []⟩]) k16x2) k16x1
/-- provenance/alloccheck.Accept -/
def c16 : AFn := ⟨141, [.tmp 4],
  .seq (.ops false [
    ⟨(some 2), .boxL (.tmp 0), none, []⟩,
    ⟨(some 3), .boxL (.tmp 1), none, []⟩,
    ⟨(some 4), .move (.c (.int .i64 0)), none, []⟩]) k16x0⟩
def S16xe0 (i2x0 : Int) (s2x1 : SA) (n2x1 : Nat) (i2x2 : Int) (s2x3 : SA) (n2x3 : Nat) (p6 : Option Ad) (s8 : SA) (n8 : Nat) (h : Heap) : St := ⟨(.any :: .any :: (.box [(.int .i64 i2x0), (.sl s2x1 n2x1), (.int .i64 i2x2), (.sl s2x3 n2x3)] :: (rep 3 (.g [] true (.ptr p6) :: (.any :: (.g [] true (.sl s8 n8) :: (rep 132 []))))))), h⟩
def S16xe2 (h : Heap) : St := ⟨(rep 141 []), h⟩
def S16xr (i4 : Int) (h : Heap) : St := ⟨(rep 4 (.g [] true (.int .i64 i4) :: (rep 136 []))), h⟩
def S16xe4 (i2x0 : Int) (s2x1 : SA) (n2x1 : Nat) (i2x2 : Int) (s2x3 : SA) (n2x3 : Nat) (p6 : Option Ad) (s8 : SA) (n8 : Nat) (s11 : SA) (n11 : Nat) (i12 : Int) (s13 : SA) (n13 : Nat) (h : Heap) : St := ⟨(.any :: .any :: (.box [(.int .i64 i2x0), (.sl s2x1 n2x1), (.int .i64 i2x2), (.sl s2x3 n2x3)] :: (rep 3 (.g [] true (.ptr p6) :: (.any :: (.g [] true (.sl s8 n8) :: (.any :: .any :: (.g [] true (.sl s11 n11) :: (.g [] true (.int .i64 i12) :: (.g [] true (.sl s13 n13) :: (rep 127 []))))))))))), h⟩
def S16xe6 (i2x0 : Int) (s2x1 : SA) (n2x1 : Nat) (i2x2 : Int) (s2x3 : SA) (n2x3 : Nat) (p6 : Option Ad) (s8 : SA) (n8 : Nat) (s11 : SA) (n11 : Nat) (h : Heap) : St := ⟨(.any :: .any :: (.box [(.int .i64 i2x0), (.sl s2x1 n2x1), (.int .i64 i2x2), (.sl s2x3 n2x3)] :: (rep 3 (.g [] true (.ptr p6) :: (.any :: (.g [] true (.sl s8 n8) :: (.any :: .any :: (.g [] true (.sl s11 n11) :: (rep 129 []))))))))), h⟩
noncomputable def Q16x14 (M : Mk) (C : Cal) : Kont (AV × Heap) := (blockQ 0 (seqQ (evalE M C k16x13) (seqQ (evalE M C k16x11) (endQ [.tmp 4]))))
noncomputable def L16x14 (i2x0 : Int) (s2x1 : SA) (n2x1 : Nat) (i2x2 : Int) (s2x3 : SA) (n2x3 : Nat) (s3x0 : SA) (n3x0 : Nat) (s3x1 : SA) (n3x1 : Nat) (i3x2 : Int) (p6 : Option Ad) (s8 : SA) (n8 : Nat) (s42 : SA) (n42 : Nat) (i43 : Int) (i44 : Int) (h : Heap) (Q : Kont R) : Option R := loopE (evalE M C k16x14) 30786325578060 324 ⟨(.any :: .any :: (.box [(.int .i64 i2x0), (.sl s2x1 n2x1), (.int .i64 i2x2), (.sl s2x3 n2x3)] :: (.box [(.sl s3x0 n3x0), (.sl s3x1 n3x1), (.int .i64 i3x2)] :: (.any :: .any :: (.g [] true (.ptr p6) :: (.any :: (.g [] true (.sl s8 n8) :: (rep 33 (.g [] true (.sl s42 n42) :: (.g [] true (.int .i64 i43) :: (.g [] true (.int .i64 i44) :: (rep 96 [])))))))))))), h⟩ Q
noncomputable def Q16x25 (M : Mk) (C : Cal) : Kont (AV × Heap) := (blockQ 2 (seqQ (evalE M C k16x24) (seqQ (evalE M C k16x23) (endQ [.tmp 4]))))
noncomputable def L16x25 (i2x0 : Int) (s2x1 : SA) (n2x1 : Nat) (i2x2 : Int) (s2x3 : SA) (n2x3 : Nat) (p6 : Option Ad) (s8 : SA) (n8 : Nat) (s11 : SA) (n11 : Nat) (h : Heap) (Q : Kont R) : Option R := loopE (evalE M C k16x25) 2372 0 ⟨(.any :: .any :: (.box [(.int .i64 i2x0), (.sl s2x1 n2x1), (.int .i64 i2x2), (.sl s2x3 n2x3)] :: (rep 3 (.g [] true (.ptr p6) :: (.any :: (.g [] true (.sl s8 n8) :: (.any :: .any :: (.g [] true (.sl s11 n11) :: (rep 129 []))))))))), h⟩ Q
noncomputable def Q16x37 (M : Mk) (C : Cal) (Q : Kont R) : Kont R := (blockQ 4 (seqQ (evalE M C k16x36) (seqQ (evalE M C k16x34) (blockQ 3 (seqQ (evalE M C k16x30) (roundQ M C k16x25 2372 0 Q))))))
noncomputable def L16x37 (i2x0 : Int) (s2x1 : SA) (n2x1 : Nat) (i2x2 : Int) (s2x3 : SA) (n2x3 : Nat) (p6 : Option Ad) (s8 : SA) (n8 : Nat) (s11 : SA) (n11 : Nat) (i12 : Int) (s13 : SA) (n13 : Nat) (s82 : SA) (n82 : Nat) (i83 : Int) (i84 : Int) (h : Heap) (Q : Kont R) : Option R := loopE (evalE M C k16x37) 33849922949209616891787588 14660 ⟨(.any :: .any :: (.box [(.int .i64 i2x0), (.sl s2x1 n2x1), (.int .i64 i2x2), (.sl s2x3 n2x3)] :: (rep 3 (.g [] true (.ptr p6) :: (.any :: (.g [] true (.sl s8 n8) :: (.any :: .any :: (.g [] true (.sl s11 n11) :: (.g [] true (.int .i64 i12) :: (.g [] true (.sl s13 n13) :: (rep 68 (.g [] true (.sl s82 n82) :: (.g [] true (.int .i64 i83) :: (.g [] true (.int .i64 i84) :: (rep 56 []))))))))))))))), h⟩ Q
noncomputable def Q16x56 (M : Mk) (C : Cal) (Q : Kont R) : Kont R := (blockQ 6 (seqQ (evalE M C k16x55) (blockQ 3 (seqQ (evalE M C k16x30) (roundQ M C k16x25 2372 0 Q)))))
noncomputable def L16x56 (i2x0 : Int) (s2x1 : SA) (n2x1 : Nat) (i2x2 : Int) (s2x3 : SA) (n2x3 : Nat) (p6 : Option Ad) (s8 : SA) (n8 : Nat) (s11 : SA) (n11 : Nat) (s13 : SA) (n13 : Nat) (s111 : SA) (n111 : Nat) (i112 : Int) (i113 : Int) (h : Heap) (Q : Kont R) : Option R := loopE (evalE M C k16x56) 18173039004871896699856737152280900 2372 ⟨(.any :: .any :: (.box [(.int .i64 i2x0), (.sl s2x1 n2x1), (.int .i64 i2x2), (.sl s2x3 n2x3)] :: (rep 3 (.g [] true (.ptr p6) :: (.any :: (.g [] true (.sl s8 n8) :: (.any :: .any :: (.g [] true (.sl s11 n11) :: (.any :: (.g [] true (.sl s13 n13) :: (rep 97 (.g [] true (.sl s111 n111) :: (.g [] true (.int .i64 i112) :: (.g [] true (.int .i64 i113) :: (rep 27 []))))))))))))))), h⟩ Q
noncomputable def J16x71 (M : Mk) (C : Cal) (i2x0 : Int) (s2x1 : SA) (n2x1 : Nat) (i2x2 : Int) (s2x3 : SA) (n2x3 : Nat) (p6 : Option Ad) (s8 : SA) (n8 : Nat) (s11 : SA) (n11 : Nat) (s13 : SA) (n13 : Nat) (i17 : Int) (s111 : SA) (n111 : Nat) (i112 : Int) (i113 : Int) (h : Heap) (Q : Kont R) : Option R := M R (blockQ 8 (seqQ (evalE M C k16x65) (seqQ (evalE M C k16x64) (blockQ 7 (seqQ (evalE M C k16x62) (seqQ (evalE M C k16x61) (roundQ M C k16x56 18173039004871896699856737152280900 2372 Q))))))) (.any :: .any :: (.box [(.int .i64 i2x0), (.sl s2x1 n2x1), (.int .i64 i2x2), (.sl s2x3 n2x3)] :: (rep 3 (.g [] true (.ptr p6) :: (.any :: (.g [] true (.sl s8 n8) :: (.any :: .any :: (.g [] true (.sl s11 n11) :: (.any :: (.g [] true (.sl s13 n13) :: (rep 3 (.g [] true (.int .i64 i17) :: (rep 93 (.g [] true (.sl s111 n111) :: (.g [] true (.int .i64 i112) :: (.g [] true (.int .i64 i113) :: (rep 27 []))))))))))))))))) h
noncomputable def J16x72 (M : Mk) (C : Cal) (i2x0 : Int) (s2x1 : SA) (n2x1 : Nat) (i2x2 : Int) (s2x3 : SA) (n2x3 : Nat) (p6 : Option Ad) (s8 : SA) (n8 : Nat) (s11 : SA) (n11 : Nat) (s13 : SA) (n13 : Nat) (s111 : SA) (n111 : Nat) (i112 : Int) (i113 : Int) (h : Heap) (Q : Kont R) : Option R := M R (seqQ (evalE M C k16x61) (roundQ M C k16x56 18173039004871896699856737152280900 2372 Q)) (.any :: .any :: (.box [(.int .i64 i2x0), (.sl s2x1 n2x1), (.int .i64 i2x2), (.sl s2x3 n2x3)] :: (rep 3 (.g [] true (.ptr p6) :: (.any :: (.g [] true (.sl s8 n8) :: (.any :: .any :: (.g [] true (.sl s11 n11) :: (.any :: (.g [] true (.sl s13 n13) :: (rep 97 (.g [] true (.sl s111 n111) :: (.g [] true (.int .i64 i112) :: (.g [] true (.int .i64 i113) :: (rep 27 []))))))))))))))) h
theorem r16 (i0x0 : Int) (s0x1 : SA) (n0x1 : Nat) (i0x2 : Int) (s0x3 : SA) (n0x3 : Nat) (s1x0 : SA) (n1x0 : Nat) (s1x1 : SA) (n1x1 : Nat) (i1x2 : Int) (h : Heap) : runE M C c16 [(.agg [(.int .i64 i0x0), (.sl s0x1 n0x1), (.int .i64 i0x2), (.sl s0x3 n0x3)]), (.agg [(.sl s1x0 n1x0), (.sl s1x1 n1x1), (.int .i64 i1x2)])] h = (
  (C 17 [(.agg [(.int .i64 i0x0), (.sl s0x1 n0x1), (.int .i64 i0x2), (.sl s0x3 n0x3)]), (.agg [(.sl s1x0 n1x0), (.sl s1x1 n1x1), (.int .i64 i1x2)])] h).bind fun r20 =>
  gI .i64 (some r20.1) true fun i20 =>
  letK ((!decide ((i20 : Int) = 0)) : Bool) fun b22 =>
  if b22 = true then
    (
    some ((.int .i64 i20), r20.2)
    )
  else
    (
    newK r20.2 (.cells [(.int .i64 i0x0), (.sl s0x1 n0x1), (.int .i64 i0x2), (.sl s0x3 n0x3), (.sl s1x0 n1x0), (.sl s1x1 n1x1), (.int .i64 i1x2)] .fix 0) fun h_2 =>
    letK ((IntKind.wrap .i64 (11 + i1x2)) : Int) fun i30 =>
    chk ((0 : Int) ≤ ((n0x3 : Nat) : Int) ∧ (((n0x3 : Nat) : Int) : Int) ≤ ((n0x3 : Nat) : Int) ∧ ((n0x3 : Nat) : Int) * ((24 : Nat) : Int) ≤ 70368744177664) <|
    newK h_2 (.cells (repl (Int.toNat ((n0x3 : Nat) : Int)) [(.sl .nil 0)]) (.grow 1) 0) fun h_3 =>
    letK ((Int.toNat ((n0x3 : Nat) : Int)) : Nat) fun n34 =>
    (C 47 [(.int .i64 i30), (.int .i64 i0x2)] h_3).bind fun r39 =>
    gL (some r39.1) true fun s39 n39 =>
    chk (true = true → (0 : Int) ≤ 0 ∧ (0 : Int) < ((n34 : Nat) : Int)) <|
    (st1 r39.2 (Ad.add ⟨List.length h_2, 0, 0⟩ (Int.toNat 0 * 1)) (.sl s39 n39)).bind fun h_4 =>
    L16x14 M C i0x0 s0x1 n0x1 i0x2 s0x3 n0x3 s1x0 n1x0 s1x1 n1x1 i1x2 (some ⟨List.length r20.2, 0, 0⟩) (.pos ⟨List.length h_2, 0, 0⟩) n34 s0x1 n0x1 ((n0x1 : Nat) : Int) 0 h_4 (Q16x14 M C)
    )
  ) := by kernel_rfl
theorem cf16 : cFn Try.prog 16 = some c16 := by kernel_rfl
theorem e16 (i0x0 : Int) (s0x1 : SA) (n0x1 : Nat) (i0x2 : Int) (s0x3 : SA) (n0x3 : Nat) (s1x0 : SA) (n1x0 : Nat) (s1x1 : SA) (n1x1 : Nat) (i1x2 : Int) (h : Heap) : TEq (E 16 [(.agg [(.int .i64 i0x0), (.sl s0x1 n0x1), (.int .i64 i0x2), (.sl s0x3 n0x3)]), (.agg [(.sl s1x0 n1x0), (.sl s1x1 n1x1), (.int .i64 i1x2)])] h) (r16 mk0 E i0x0 s0x1 n0x1 i0x2 s0x3 n0x3 s1x0 n1x0 s1x1 n1x1 i1x2 h) := (EV_eq (P := Try.prog) (T := T0) rfl cf16 [(.agg [(.int .i64 i0x0), (.sl s0x1 n0x1), (.int .i64 i0x2), (.sl s0x3 n0x3)]), (.agg [(.sl s1x0 n1x0), (.sl s1x1 n1x1), (.int .i64 i1x2)])] h).trans (r16 mk0 E i0x0 s0x1 n0x1 i0x2 s0x3 n0x3 s1x0 n1x0 s1x1 n1x1 i1x2 h)
theorem L16x14xaux (i2x0 : Int) (s2x1 : SA) (n2x1 : Nat) (i2x2 : Int) (s2x3 : SA) (n2x3 : Nat) (s3x0 : SA) (n3x0 : Nat) (s3x1 : SA) (n3x1 : Nat) (i3x2 : Int) (p6 : Option Ad) (s8 : SA) (n8 : Nat) (s42 : SA) (n42 : Nat) (i43 : Int) (i44 : Int) (h : Heap) (Q : Kont R) : (restrF 30786325578060 ⟨(.any :: .any :: (.box [(.int .i64 i2x0), (.sl s2x1 n2x1), (.int .i64 i2x2), (.sl s2x3 n2x3)] :: (.box [(.sl s3x0 n3x0), (.sl s3x1 n3x1), (.int .i64 i3x2)] :: (.any :: .any :: (.g [] true (.ptr p6) :: (.any :: (.g [] true (.sl s8 n8) :: (rep 33 (.g [] true (.sl s42 n42) :: (.g [] true (.int .i64 i43) :: (.g [] true (.int .i64 i44) :: (rep 96 [])))))))))))), h⟩ fun σ => evalE M C k16x14 σ (roundQ M C k16x14 30786325578060 324 Q)) = (
  letK ((decide ((i44 : Int) < i43)) : Bool) fun b45 =>
  if b45 = true then
    (
    chk (true = true → (0 : Int) ≤ i44 ∧ (i44 : Int) < ((n42 : Nat) : Int)) <|
    atP (adP s42) true fun a46 =>
    gI .i64 (ld1 h (Ad.add a46 (Int.toNat i44 * 1))) true fun i47 =>
    chk (true = true → (0 : Int) ≤ 0 ∧ (0 : Int) < ((n8 : Nat) : Int)) <|
    atP (adP s8) true fun a49 =>
    gL (ld1 h (Ad.add a49 (Int.toNat 0 * 1))) true fun s50 n50 =>
    (C 49 [(.agg [(.sl s3x0 n3x0), (.sl s3x1 n3x1), (.int .i64 i3x2)]), (.int .i64 i47)] h).bind fun r53 =>
    gI .i64 (some r53.1) true fun i53 =>
    chkC (true = true → ldN r53.2 (Ad.add a49 (Int.toNat 0 * 1)) 1 = ldN h (Ad.add a49 (Int.toNat 0 * 1)) 1) <|
    (C 48 [(.sl s50 n50), (.int .i64 i53), (.int .i64 i47), (.sl .nil 0)] r53.2).bind fun r55 =>
    gT 0 r55.1 true fun u55 =>
    letK ((IntKind.wrap .i64 (i44 + 1)) : Int) fun i56 =>
    L16x14 M C i2x0 s2x1 n2x1 i2x2 s2x3 n2x3 s3x0 n3x0 s3x1 n3x1 i3x2 p6 s8 n8 s42 n42 i43 i56 r55.2 Q
    )
  else
    (
    Q (.exit 0) (S16xe0 i2x0 s2x1 n2x1 i2x2 s2x3 n2x3 p6 s8 n8 h)
    )
  ) := by kernel_rfl
theorem L16x14xeq (i2x0 : Int) (s2x1 : SA) (n2x1 : Nat) (i2x2 : Int) (s2x3 : SA) (n2x3 : Nat) (s3x0 : SA) (n3x0 : Nat) (s3x1 : SA) (n3x1 : Nat) (i3x2 : Int) (p6 : Option Ad) (s8 : SA) (n8 : Nat) (s42 : SA) (n42 : Nat) (i43 : Int) (i44 : Int) (h : Heap) (Q : Kont R) : TEq (L16x14 mk0 C i2x0 s2x1 n2x1 i2x2 s2x3 n2x3 s3x0 n3x0 s3x1 n3x1 i3x2 p6 s8 n8 s42 n42 i43 i44 h Q) (L16x14xaux mk0 C i2x0 s2x1 n2x1 i2x2 s2x3 n2x3 s3x0 n3x0 s3x1 n3x1 i3x2 p6 s8 n8 s42 n42 i43 i44 h Q) := loop_eqn C k16x14 30786325578060 324 (.any :: .any :: (.box [(.int .i64 i2x0), (.sl s2x1 n2x1), (.int .i64 i2x2), (.sl s2x3 n2x3)] :: (.box [(.sl s3x0 n3x0), (.sl s3x1 n3x1), (.int .i64 i3x2)] :: (.any :: .any :: (.g [] true (.ptr p6) :: (.any :: (.g [] true (.sl s8 n8) :: (rep 33 (.g [] true (.sl s42 n42) :: (.g [] true (.int .i64 i43) :: (.g [] true (.int .i64 i44) :: (rep 96 [])))))))))))) h Q (by kernel_rfl) (L16x14xaux mk0 C i2x0 s2x1 n2x1 i2x2 s2x3 n2x3 s3x0 n3x0 s3x1 n3x1 i3x2 p6 s8 n8 s42 n42 i43 i44 h Q)
theorem X16x14xe0 (M : Mk) (C : Cal) (i2x0 : Int) (s2x1 : SA) (n2x1 : Nat) (i2x2 : Int) (s2x3 : SA) (n2x3 : Nat) (p6 : Option Ad) (s8 : SA) (n8 : Nat) (h : Heap) : Q16x14 M C (.exit 0) (S16xe0 i2x0 s2x1 n2x1 i2x2 s2x3 n2x3 p6 s8 n8 h) = (
  newK h (.cells [(.int .i64 0)] (.grow 1) 0) fun h_2 =>
  L16x25 M C i2x0 s2x1 n2x1 i2x2 s2x3 n2x3 p6 s8 n8 (.pos ⟨List.length h, 0, 0⟩) 1 h_2 (Q16x25 M C)
  ) := by kernel_rfl
theorem L16x25xaux (i2x0 : Int) (s2x1 : SA) (n2x1 : Nat) (i2x2 : Int) (s2x3 : SA) (n2x3 : Nat) (p6 : Option Ad) (s8 : SA) (n8 : Nat) (s11 : SA) (n11 : Nat) (h : Heap) (Q : Kont R) : (restrF 2372 ⟨(.any :: .any :: (.box [(.int .i64 i2x0), (.sl s2x1 n2x1), (.int .i64 i2x2), (.sl s2x3 n2x3)] :: (rep 3 (.g [] true (.ptr p6) :: (.any :: (.g [] true (.sl s8 n8) :: (.any :: .any :: (.g [] true (.sl s11 n11) :: (rep 129 []))))))))), h⟩ fun σ => evalE M C k16x25 σ (roundQ M C k16x25 2372 0 Q)) = (
  letK ((decide ((0 : Int) < ((n11 : Nat) : Int))) : Bool) fun b60 =>
  if b60 = true then
    (
    letK ((IntKind.wrap .i64 (((n11 : Nat) : Int) - 1)) : Int) fun i64 =>
    chk (true = true → (0 : Int) ≤ i64 ∧ (i64 : Int) < ((n11 : Nat) : Int)) <|
    atP (adP s11) true fun a65 =>
    gI .i64 (ld1 h (Ad.add a65 (Int.toNat i64 * 1))) true fun i66 =>
    letK ((IntKind.wrap .i64 (((n11 : Nat) : Int) - 1)) : Int) fun i70 =>
    chkC (true = true → (0 : Int) ≤ i70 ∧ hiOk h s11 n11 1 i70) <|
    letK ((Int.toNat i70) : Nat) fun n71 =>
    chk (true = true → (0 : Int) ≤ i66 ∧ (i66 : Int) < ((n8 : Nat) : Int)) <|
    atP (adP s8) true fun a74 =>
    gL (ld1 h (Ad.add a74 (Int.toNat i66 * 1))) true fun s75 n75 =>
    (C 50 [(.sl s75 n75)] h).bind fun r76 =>
    gL (some r76.1) true fun s76 n76 =>
    chk (true = true → (0 : Int) ≤ i66 ∧ (i66 : Int) < ((n2x3 : Nat) : Int)) <|
    atP (adP s2x3) true fun a80 =>
    gL (ld1 r76.2 (Ad.add (Ad.add a80 (Int.toNat i66 * 7)) 0)) true fun s82 n82 =>
    L16x37 M C i2x0 s2x1 n2x1 i2x2 s2x3 n2x3 p6 s8 n8 s11 n71 i66 s76 n76 s82 n82 ((n82 : Nat) : Int) 0 r76.2 (Q16x37 M C Q)
    )
  else
    (
    Q (.exit 2) (S16xe2 h)
    )
  ) := by kernel_rfl
theorem L16x25xeq (i2x0 : Int) (s2x1 : SA) (n2x1 : Nat) (i2x2 : Int) (s2x3 : SA) (n2x3 : Nat) (p6 : Option Ad) (s8 : SA) (n8 : Nat) (s11 : SA) (n11 : Nat) (h : Heap) (Q : Kont R) : TEq (L16x25 mk0 C i2x0 s2x1 n2x1 i2x2 s2x3 n2x3 p6 s8 n8 s11 n11 h Q) (L16x25xaux mk0 C i2x0 s2x1 n2x1 i2x2 s2x3 n2x3 p6 s8 n8 s11 n11 h Q) := loop_eqn C k16x25 2372 0 (.any :: .any :: (.box [(.int .i64 i2x0), (.sl s2x1 n2x1), (.int .i64 i2x2), (.sl s2x3 n2x3)] :: (rep 3 (.g [] true (.ptr p6) :: (.any :: (.g [] true (.sl s8 n8) :: (.any :: .any :: (.g [] true (.sl s11 n11) :: (rep 129 []))))))))) h Q (by kernel_rfl) (L16x25xaux mk0 C i2x0 s2x1 n2x1 i2x2 s2x3 n2x3 p6 s8 n8 s11 n11 h Q)
theorem L16x37xaux (i2x0 : Int) (s2x1 : SA) (n2x1 : Nat) (i2x2 : Int) (s2x3 : SA) (n2x3 : Nat) (p6 : Option Ad) (s8 : SA) (n8 : Nat) (s11 : SA) (n11 : Nat) (i12 : Int) (s13 : SA) (n13 : Nat) (s82 : SA) (n82 : Nat) (i83 : Int) (i84 : Int) (h : Heap) (Q : Kont R) : (restrF 33849922949209616891787588 ⟨(.any :: .any :: (.box [(.int .i64 i2x0), (.sl s2x1 n2x1), (.int .i64 i2x2), (.sl s2x3 n2x3)] :: (rep 3 (.g [] true (.ptr p6) :: (.any :: (.g [] true (.sl s8 n8) :: (.any :: .any :: (.g [] true (.sl s11 n11) :: (.g [] true (.int .i64 i12) :: (.g [] true (.sl s13 n13) :: (rep 68 (.g [] true (.sl s82 n82) :: (.g [] true (.int .i64 i83) :: (.g [] true (.int .i64 i84) :: (rep 56 []))))))))))))))), h⟩ fun σ => evalE M C k16x37 σ (roundQ M C k16x37 33849922949209616891787588 14660 Q)) = (
  letK ((decide ((i84 : Int) < i83)) : Bool) fun b85 =>
  if b85 = true then
    (
    chk (true = true → (0 : Int) ≤ i84 ∧ (i84 : Int) < ((n82 : Nat) : Int)) <|
    atP (adP s82) true fun a86 =>
    gCells (ldN h (Ad.add a86 (Int.toNat i84 * 6)) 6) true fun l87 =>
    gI .i64 (l87[0]?) true fun i87x0 =>
    gI .i64 (l87[1]?) true fun i87x1 =>
    gI .i64 (l87[2]?) true fun i87x2 =>
    gI .i64 (l87[3]?) true fun i87x3 =>
    gI .i64 (l87[4]?) true fun i87x4 =>
    gL (l87[5]?) true fun s87x5 n87x5 =>
    (C 51 [(.ptr p6), (.sl s13 n13), (.agg [(.int .i64 i87x0), (.int .i64 i87x1), (.int .i64 i87x2), (.int .i64 i87x3), (.int .i64 i87x4), (.sl s87x5 n87x5)])] h).bind fun r91 =>
    gB (some r91.1) true fun b91 =>
    if (!b91) = true then
      (
      Q .ret (S16xr 14 r91.2)
      )
    else
      (
      letK ((IntKind.wrap .i64 (i84 + 1)) : Int) fun i93 =>
      L16x37 M C i2x0 s2x1 n2x1 i2x2 s2x3 n2x3 p6 s8 n8 s11 n11 i12 s13 n13 s82 n82 i83 i93 r91.2 Q
      )
    )
  else
    (
    Q (.exit 4) (S16xe4 i2x0 s2x1 n2x1 i2x2 s2x3 n2x3 p6 s8 n8 s11 n11 i12 s13 n13 h)
    )
  ) := by kernel_rfl
theorem L16x37xeq (i2x0 : Int) (s2x1 : SA) (n2x1 : Nat) (i2x2 : Int) (s2x3 : SA) (n2x3 : Nat) (p6 : Option Ad) (s8 : SA) (n8 : Nat) (s11 : SA) (n11 : Nat) (i12 : Int) (s13 : SA) (n13 : Nat) (s82 : SA) (n82 : Nat) (i83 : Int) (i84 : Int) (h : Heap) (Q : Kont R) : TEq (L16x37 mk0 C i2x0 s2x1 n2x1 i2x2 s2x3 n2x3 p6 s8 n8 s11 n11 i12 s13 n13 s82 n82 i83 i84 h Q) (L16x37xaux mk0 C i2x0 s2x1 n2x1 i2x2 s2x3 n2x3 p6 s8 n8 s11 n11 i12 s13 n13 s82 n82 i83 i84 h Q) := loop_eqn C k16x37 33849922949209616891787588 14660 (.any :: .any :: (.box [(.int .i64 i2x0), (.sl s2x1 n2x1), (.int .i64 i2x2), (.sl s2x3 n2x3)] :: (rep 3 (.g [] true (.ptr p6) :: (.any :: (.g [] true (.sl s8 n8) :: (.any :: .any :: (.g [] true (.sl s11 n11) :: (.g [] true (.int .i64 i12) :: (.g [] true (.sl s13 n13) :: (rep 68 (.g [] true (.sl s82 n82) :: (.g [] true (.int .i64 i83) :: (.g [] true (.int .i64 i84) :: (rep 56 []))))))))))))))) h Q (by kernel_rfl) (L16x37xaux mk0 C i2x0 s2x1 n2x1 i2x2 s2x3 n2x3 p6 s8 n8 s11 n11 i12 s13 n13 s82 n82 i83 i84 h Q)
theorem X16x25xe2 (M : Mk) (C : Cal) (h : Heap) : Q16x25 M C (.exit 2) (S16xe2 h) = (
  some ((.int .i64 0), h)
  ) := by kernel_rfl
theorem X16x37xr (M : Mk) (C : Cal) (i4 : Int) (h : Heap) (Q : Kont R) : Q16x37 M C Q .ret (S16xr i4 h) = (
  Q .ret (S16xr i4 h)
  ) := by kernel_rfl
theorem X16x25xr (M : Mk) (C : Cal) (i4 : Int) (h : Heap) : Q16x25 M C .ret (S16xr i4 h) = (
  some ((.int .i64 i4), h)
  ) := by kernel_rfl
theorem X16x37xe4 (M : Mk) (C : Cal) (i2x0 : Int) (s2x1 : SA) (n2x1 : Nat) (i2x2 : Int) (s2x3 : SA) (n2x3 : Nat) (p6 : Option Ad) (s8 : SA) (n8 : Nat) (s11 : SA) (n11 : Nat) (i12 : Int) (s13 : SA) (n13 : Nat) (h : Heap) (Q : Kont R) : Q16x37 M C Q (.exit 4) (S16xe4 i2x0 s2x1 n2x1 i2x2 s2x3 n2x3 p6 s8 n8 s11 n11 i12 s13 n13 h) = (
  chk (true = true → (0 : Int) ≤ i12 ∧ (i12 : Int) < ((n2x3 : Nat) : Int)) <|
  atP (adP s2x3) true fun a99 =>
  gCells (ldN h (Ad.add (Ad.add a99 (Int.toNat i12 * 7)) 1) 6) true fun l101 =>
  gI .i64 (l101[0]?) true fun i101x0 =>
  gI .i64 (l101[1]?) true fun i101x1 =>
  gI .i64 (l101[2]?) true fun i101x2 =>
  gI .i64 (l101[3]?) true fun i101x3 =>
  gI .i64 (l101[4]?) true fun i101x4 =>
  gL (l101[5]?) true fun s101x5 n101x5 =>
  (C 31 [(.agg [(.int .i64 i101x0), (.int .i64 i101x1), (.int .i64 i101x2), (.int .i64 i101x3), (.int .i64 i101x4), (.sl s101x5 n101x5)])] h).bind fun r102 =>
  gL (some r102.1) true fun s102 n102 =>
  (C 52 [(.ptr p6), (.sl s13 n13), (.sl s102 n102)] r102.2).bind fun r103 =>
  gB (some r103.1) true fun b103 =>
  if (!b103) = true then
    (
    Q .ret (S16xr 14 r103.2)
    )
  else
    (
    chk (true = true → (0 : Int) ≤ i12 ∧ (i12 : Int) < ((n2x3 : Nat) : Int)) <|
    atP (adP s2x3) true fun a108 =>
    gL (ld1 r103.2 (Ad.add (Ad.add (Ad.add a108 (Int.toNat i12 * 7)) 1) 5)) true fun s111 n111 =>
    L16x56 M C i2x0 s2x1 n2x1 i2x2 s2x3 n2x3 p6 s8 n8 s11 n11 s13 n13 s111 n111 ((n111 : Nat) : Int) 0 r103.2 (Q16x56 M C Q)
    )
  ) := by kernel_rfl
theorem L16x56xaux (i2x0 : Int) (s2x1 : SA) (n2x1 : Nat) (i2x2 : Int) (s2x3 : SA) (n2x3 : Nat) (p6 : Option Ad) (s8 : SA) (n8 : Nat) (s11 : SA) (n11 : Nat) (s13 : SA) (n13 : Nat) (s111 : SA) (n111 : Nat) (i112 : Int) (i113 : Int) (h : Heap) (Q : Kont R) : (restrF 18173039004871896699856737152280900 ⟨(.any :: .any :: (.box [(.int .i64 i2x0), (.sl s2x1 n2x1), (.int .i64 i2x2), (.sl s2x3 n2x3)] :: (rep 3 (.g [] true (.ptr p6) :: (.any :: (.g [] true (.sl s8 n8) :: (.any :: .any :: (.g [] true (.sl s11 n11) :: (.any :: (.g [] true (.sl s13 n13) :: (rep 97 (.g [] true (.sl s111 n111) :: (.g [] true (.int .i64 i112) :: (.g [] true (.int .i64 i113) :: (rep 27 []))))))))))))))), h⟩ fun σ => evalE M C k16x56 σ (roundQ M C k16x56 18173039004871896699856737152280900 2372 Q)) = (
  letK ((decide ((i113 : Int) < i112)) : Bool) fun b114 =>
  if b114 = true then
    (
    chk (true = true → (0 : Int) ≤ i113 ∧ (i113 : Int) < ((n111 : Nat) : Int)) <|
    atP (adP s111) true fun a115 =>
    gI .i64 (ld1 h (Ad.add a115 (Int.toNat i113 * 1))) true fun i116 =>
    chk (true = true → (0 : Int) ≤ i116 ∧ (i116 : Int) < ((n8 : Nat) : Int)) <|
    atP (adP s8) true fun a120 =>
    gL (ld1 h (Ad.add a120 (Int.toNat i116 * 1))) true fun s121 n121 =>
    letK ((SA.isNil s121) : Bool) fun b122 =>
    if b122 = true then
      (
      (C 50 [(.sl s13 n13)] h).bind fun r126 =>
      gL (some r126.1) true fun s126 n126 =>
      chk (true = true → (0 : Int) ≤ i116 ∧ (i116 : Int) < ((n8 : Nat) : Int)) <|
      atP (adP s8) true fun a127 =>
      (st1 r126.2 (Ad.add a127 (Int.toNat i116 * 1)) (.sl s126 n126)).bind fun h_2 =>
      J16x71 M C i2x0 s2x1 n2x1 i2x2 s2x3 n2x3 p6 s8 n8 s11 n11 s13 n13 i116 s111 n111 i112 i113 h_2 Q
      )
    else
      (
      chk (true = true → (0 : Int) ≤ i116 ∧ (i116 : Int) < ((n8 : Nat) : Int)) <|
      atP (adP s8) true fun a131 =>
      gL (ld1 h (Ad.add a131 (Int.toNat i116 * 1))) true fun s132 n132 =>
      (C 53 [(.sl s132 n132), (.sl s13 n13)] h).bind fun r134 =>
      gB (some r134.1) true fun b134 =>
      if (!b134) = true then
        (
        J16x72 M C i2x0 s2x1 n2x1 i2x2 s2x3 n2x3 p6 s8 n8 s11 n11 s13 n13 s111 n111 i112 i113 r134.2 Q
        )
      else
        (
        J16x71 M C i2x0 s2x1 n2x1 i2x2 s2x3 n2x3 p6 s8 n8 s11 n11 s13 n13 i116 s111 n111 i112 i113 r134.2 Q
        )
      )
    )
  else
    (
    Q (.exit 6) (S16xe6 i2x0 s2x1 n2x1 i2x2 s2x3 n2x3 p6 s8 n8 s11 n11 h)
    )
  ) := by kernel_rfl
theorem L16x56xeq (i2x0 : Int) (s2x1 : SA) (n2x1 : Nat) (i2x2 : Int) (s2x3 : SA) (n2x3 : Nat) (p6 : Option Ad) (s8 : SA) (n8 : Nat) (s11 : SA) (n11 : Nat) (s13 : SA) (n13 : Nat) (s111 : SA) (n111 : Nat) (i112 : Int) (i113 : Int) (h : Heap) (Q : Kont R) : TEq (L16x56 mk0 C i2x0 s2x1 n2x1 i2x2 s2x3 n2x3 p6 s8 n8 s11 n11 s13 n13 s111 n111 i112 i113 h Q) (L16x56xaux mk0 C i2x0 s2x1 n2x1 i2x2 s2x3 n2x3 p6 s8 n8 s11 n11 s13 n13 s111 n111 i112 i113 h Q) := loop_eqn C k16x56 18173039004871896699856737152280900 2372 (.any :: .any :: (.box [(.int .i64 i2x0), (.sl s2x1 n2x1), (.int .i64 i2x2), (.sl s2x3 n2x3)] :: (rep 3 (.g [] true (.ptr p6) :: (.any :: (.g [] true (.sl s8 n8) :: (.any :: .any :: (.g [] true (.sl s11 n11) :: (.any :: (.g [] true (.sl s13 n13) :: (rep 97 (.g [] true (.sl s111 n111) :: (.g [] true (.int .i64 i112) :: (.g [] true (.int .i64 i113) :: (rep 27 []))))))))))))))) h Q (by kernel_rfl) (L16x56xaux mk0 C i2x0 s2x1 n2x1 i2x2 s2x3 n2x3 p6 s8 n8 s11 n11 s13 n13 s111 n111 i112 i113 h Q)
theorem J16x71xaux (M : Mk) (C : Cal) (i2x0 : Int) (s2x1 : SA) (n2x1 : Nat) (i2x2 : Int) (s2x3 : SA) (n2x3 : Nat) (p6 : Option Ad) (s8 : SA) (n8 : Nat) (s11 : SA) (n11 : Nat) (s13 : SA) (n13 : Nat) (i17 : Int) (s111 : SA) (n111 : Nat) (i112 : Int) (i113 : Int) (h : Heap) (Q : Kont R) : (forceK tk (.any :: .any :: (.box [(.int .i64 i2x0), (.sl s2x1 n2x1), (.int .i64 i2x2), (.sl s2x3 n2x3)] :: (rep 3 (.g [] true (.ptr p6) :: (.any :: (.g [] true (.sl s8 n8) :: (.any :: .any :: (.g [] true (.sl s11 n11) :: (.any :: (.g [] true (.sl s13 n13) :: (rep 3 (.g [] true (.int .i64 i17) :: (rep 93 (.g [] true (.sl s111 n111) :: (.g [] true (.int .i64 i112) :: (.g [] true (.int .i64 i113) :: (rep 27 []))))))))))))))))) fun e => (blockQ 8 (seqQ (evalE M C k16x65) (seqQ (evalE M C k16x64) (blockQ 7 (seqQ (evalE M C k16x62) (seqQ (evalE M C k16x61) (roundQ M C k16x56 18173039004871896699856737152280900 2372 Q))))))) .normal ⟨e, h⟩) = (
  newK h (.cells [(.int .i64 i17)] (.grow 1) 0) fun h_2 =>
  (ldSl h_2 (.pos ⟨List.length h, 0, 0⟩) (1 * 1)).bind fun y139 =>
  (apnd h_2 (.sl s11 n11) 1 8 y139 1).bind fun r139 =>
  gL (some r139.1) true fun s139 n139 =>
  J16x72 M C i2x0 s2x1 n2x1 i2x2 s2x3 n2x3 p6 s8 n8 s139 n139 s13 n13 s111 n111 i112 i113 r139.2 Q
  ) := by kernel_rfl
theorem J16x71xeq (C : Cal) (i2x0 : Int) (s2x1 : SA) (n2x1 : Nat) (i2x2 : Int) (s2x3 : SA) (n2x3 : Nat) (p6 : Option Ad) (s8 : SA) (n8 : Nat) (s11 : SA) (n11 : Nat) (s13 : SA) (n13 : Nat) (i17 : Int) (s111 : SA) (n111 : Nat) (i112 : Int) (i113 : Int) (h : Heap) (Q : Kont R) : TEq (J16x71 mk0 C i2x0 s2x1 n2x1 i2x2 s2x3 n2x3 p6 s8 n8 s11 n11 s13 n13 i17 s111 n111 i112 i113 h Q) (J16x71xaux mk0 C i2x0 s2x1 n2x1 i2x2 s2x3 n2x3 p6 s8 n8 s11 n11 s13 n13 i17 s111 n111 i112 i113 h Q) := join_eqn (blockQ 8 (seqQ (evalE mk0 C k16x65) (seqQ (evalE mk0 C k16x64) (blockQ 7 (seqQ (evalE mk0 C k16x62) (seqQ (evalE mk0 C k16x61) (roundQ mk0 C k16x56 18173039004871896699856737152280900 2372 Q))))))) (.any :: .any :: (.box [(.int .i64 i2x0), (.sl s2x1 n2x1), (.int .i64 i2x2), (.sl s2x3 n2x3)] :: (rep 3 (.g [] true (.ptr p6) :: (.any :: (.g [] true (.sl s8 n8) :: (.any :: .any :: (.g [] true (.sl s11 n11) :: (.any :: (.g [] true (.sl s13 n13) :: (rep 3 (.g [] true (.int .i64 i17) :: (rep 93 (.g [] true (.sl s111 n111) :: (.g [] true (.int .i64 i112) :: (.g [] true (.int .i64 i113) :: (rep 27 []))))))))))))))))) h (J16x71xaux mk0 C i2x0 s2x1 n2x1 i2x2 s2x3 n2x3 p6 s8 n8 s11 n11 s13 n13 i17 s111 n111 i112 i113 h Q)
theorem J16x72xaux (M : Mk) (C : Cal) (i2x0 : Int) (s2x1 : SA) (n2x1 : Nat) (i2x2 : Int) (s2x3 : SA) (n2x3 : Nat) (p6 : Option Ad) (s8 : SA) (n8 : Nat) (s11 : SA) (n11 : Nat) (s13 : SA) (n13 : Nat) (s111 : SA) (n111 : Nat) (i112 : Int) (i113 : Int) (h : Heap) (Q : Kont R) : (forceK tk (.any :: .any :: (.box [(.int .i64 i2x0), (.sl s2x1 n2x1), (.int .i64 i2x2), (.sl s2x3 n2x3)] :: (rep 3 (.g [] true (.ptr p6) :: (.any :: (.g [] true (.sl s8 n8) :: (.any :: .any :: (.g [] true (.sl s11 n11) :: (.any :: (.g [] true (.sl s13 n13) :: (rep 97 (.g [] true (.sl s111 n111) :: (.g [] true (.int .i64 i112) :: (.g [] true (.int .i64 i113) :: (rep 27 []))))))))))))))) fun e => (seqQ (evalE M C k16x61) (roundQ M C k16x56 18173039004871896699856737152280900 2372 Q)) .normal ⟨e, h⟩) = (
  letK ((IntKind.wrap .i64 (i113 + 1)) : Int) fun i140 =>
  L16x56 M C i2x0 s2x1 n2x1 i2x2 s2x3 n2x3 p6 s8 n8 s11 n11 s13 n13 s111 n111 i112 i140 h Q
  ) := by kernel_rfl
theorem J16x72xeq (C : Cal) (i2x0 : Int) (s2x1 : SA) (n2x1 : Nat) (i2x2 : Int) (s2x3 : SA) (n2x3 : Nat) (p6 : Option Ad) (s8 : SA) (n8 : Nat) (s11 : SA) (n11 : Nat) (s13 : SA) (n13 : Nat) (s111 : SA) (n111 : Nat) (i112 : Int) (i113 : Int) (h : Heap) (Q : Kont R) : TEq (J16x72 mk0 C i2x0 s2x1 n2x1 i2x2 s2x3 n2x3 p6 s8 n8 s11 n11 s13 n13 s111 n111 i112 i113 h Q) (J16x72xaux mk0 C i2x0 s2x1 n2x1 i2x2 s2x3 n2x3 p6 s8 n8 s11 n11 s13 n13 s111 n111 i112 i113 h Q) := join_eqn (seqQ (evalE mk0 C k16x61) (roundQ mk0 C k16x56 18173039004871896699856737152280900 2372 Q)) (.any :: .any :: (.box [(.int .i64 i2x0), (.sl s2x1 n2x1), (.int .i64 i2x2), (.sl s2x3 n2x3)] :: (rep 3 (.g [] true (.ptr p6) :: (.any :: (.g [] true (.sl s8 n8) :: (.any :: .any :: (.g [] true (.sl s11 n11) :: (.any :: (.g [] true (.sl s13 n13) :: (rep 97 (.g [] true (.sl s111 n111) :: (.g [] true (.int .i64 i112) :: (.g [] true (.int .i64 i113) :: (rep 27 []))))))))))))))) h (J16x72xaux mk0 C i2x0 s2x1 n2x1 i2x2 s2x3 n2x3 p6 s8 n8 s11 n11 s13 n13 s111 n111 i112 i113 h Q)
theorem X16x56xe6 (M : Mk) (C : Cal) (i2x0 : Int) (s2x1 : SA) (n2x1 : Nat) (i2x2 : Int) (s2x3 : SA) (n2x3 : Nat) (p6 : Option Ad) (s8 : SA) (n8 : Nat) (s11 : SA) (n11 : Nat) (h : Heap) (Q : Kont R) : Q16x56 M C Q (.exit 6) (S16xe6 i2x0 s2x1 n2x1 i2x2 s2x3 n2x3 p6 s8 n8 s11 n11 h) = (
  L16x25 M C i2x0 s2x1 n2x1 i2x2 s2x3 n2x3 p6 s8 n8 s11 n11 h Q
  ) := by kernel_rfl
def k6x5 : AC := .ret
def k6x4 : AC := .seq (.mask 256) k6x5
def k6x3 : AC := .mask 60
def k6x2 : AC := .seq (.cond (.tmp 12)
   (.seq (.ops false [
      ⟨(some 8), .move (.c (.bool false)), none, []⟩]) k6x4)
   (.skip)) k6x3
def k6x10 : AC := .ret
def k6x9 : AC := .seq (.mask 256) k6x10
def k6x8 : AC := .mask 60
def k6x7 : AC := .seq (.cond (.tmp 21)
   (.seq (.ops false [
      ⟨(some 8), .move (.c (.bool true)), none, []⟩]) k6x9)
   (.skip)) k6x8
def k6x19 : AC := .exit 0
def k6x18 : AC := .mask 25769804348
def k6x25 : AC := .join 25769805372
def k6x24 : AC := .seq (.cond (.tmp 42)
   (.ops false [
      ⟨(some 43), .fieldAddr 0 (.tmp 9), none, []⟩,
      ⟨(some 44), .load (.cell .sl) (.tmp 43), none, []⟩,
      ⟨(some 45), .move (.tmp 10), none, []⟩,
      ⟨(some 46), .fieldAddr 0 (.tmp 9), none, []⟩,
      ⟨(some 47), .load (.cell .sl) (.tmp 46), none, []⟩,
      ⟨(some 48), .move (.tmp 10), none, []⟩,
      ⟨(some 49), .indexAddr 1 (.tmp 47) (.tmp 48), none, []⟩,
      ⟨(some 50), .load (.cell (.int .i64)) (.tmp 49), none, []⟩,
      ⟨(some 51), .bin .other .sub (.tmp 50) (.c (.int .i64 1)), none, []⟩,
      ⟨(some 52), .move (.tmp 2), none, []⟩,
      ⟨(some 53), .call 11 [(.tmp 52), (.c (.int .i64 10))] [(.cell (.int .i64))] (.int .i64 0), none, [.load 1 43 none, .load 1 46 none, .load 1 49 none]⟩,
      ⟨(some 54), .bin .other .add (.tmp 51) (.tmp 53), none, []⟩,
      ⟨(some 55), .call 11 [(.tmp 54), (.c (.int .i64 10))] [(.cell (.int .i64))] (.int .i64 0), none, [.load 1 43 none]⟩,
      ⟨(some 56), .bin .other .add (.c (.int .i64 1)) (.tmp 55), none, []⟩,
      ⟨(some 57), .indexAddr 1 (.tmp 44) (.tmp 45), none, []⟩,
      ⟨none, .store 1 (.tmp 57) (.tmp 56), none, []⟩])
   (.skip)) k6x25
def k6x28 : AC := .join 25769804348
def k6x27 : AC := .seq (.cond (.tmp 63)
   (.ops false [
      ⟨(some 64), .fieldAddr 1 (.tmp 9), none, []⟩,
      ⟨(some 65), .load (.cell .sl) (.tmp 64), none, []⟩,
      ⟨(some 66), .move (.tmp 10), none, []⟩,
      ⟨(some 67), .fieldAddr 1 (.tmp 9), none, []⟩,
      ⟨(some 68), .load (.cell .sl) (.tmp 67), none, []⟩,
      ⟨(some 69), .move (.tmp 10), none, []⟩,
      ⟨(some 70), .indexAddr 1 (.tmp 68) (.tmp 69), none, []⟩,
      ⟨(some 71), .load (.cell (.int .i64)) (.tmp 70), none, []⟩,
      ⟨(some 72), .move (.tmp 3), none, []⟩,
      ⟨(some 73), .fieldAddr 2 (.tmp 9), none, []⟩,
      ⟨(some 74), .load (.cell (.int .i64)) (.tmp 73), none, []⟩,
      ⟨(some 77), .fieldAddr 2 (.tmp 9), none, []⟩,
      ⟨(some 78), .load (.cell (.int .i64)) (.tmp 77), none, []⟩,
      ⟨(some 75), .call 11 [(.tmp 72), (.tmp 74)] [(.cell (.int .i64))] (.int .i64 0), none, [.load 1 64 none, .load 1 67 none, .load 1 70 none, .load 1 77 none]⟩,
      ⟨(some 76), .bin .other .add (.tmp 71) (.tmp 75), none, []⟩,
      ⟨(some 79), .call 11 [(.tmp 76), (.tmp 78)] [(.cell (.int .i64))] (.int .i64 0), none, [.load 1 64 none]⟩,
      ⟨(some 80), .indexAddr 1 (.tmp 65) (.tmp 66), none, []⟩,
      ⟨none, .store 1 (.tmp 80) (.tmp 79), none, []⟩])
   (.skip)) k6x28
def k6x23 : AC := .seq (.ops false [
    ⟨(some 58), .fieldAddr 1 (.tmp 9), none, []⟩,
    ⟨(some 59), .load (.cell .sl) (.tmp 58), none, []⟩,
    ⟨(some 60), .move (.tmp 10), none, []⟩,
    ⟨(some 61), .indexAddr 1 (.tmp 59) (.tmp 60), none, []⟩,
    ⟨(some 62), .load (.cell (.int .i64)) (.tmp 61), none, []⟩,
    ⟨(some 63), .bin .other .geq (.tmp 62) (.c (.int .i64 0)), none, []⟩]) k6x27
def k6x22 : AC := .seq (.seq (.ops false [
    ⟨(some 37), .fieldAddr 0 (.tmp 9), none, []⟩,
    ⟨(some 38), .load (.cell .sl) (.tmp 37), none, []⟩,
    ⟨(some 39), .move (.tmp 10), none, []⟩,
    ⟨(some 40), .indexAddr 1 (.tmp 38) (.tmp 39), none, []⟩,
    ⟨(some 41), .load (.cell (.int .i64)) (.tmp 40), none, []⟩,
    ⟨(some 42), .bin .other .gtr (.tmp 41) (.c (.int .i64 0)), none, []⟩]) k6x24) k6x23
def k6x21 : AC := .mask 25769804348
def k6x20 : AC := .ops false [
    ⟨(some 81), .bin .other .add (.tmp 34) (.c (.int .i64 1)), none, []⟩,
    ⟨(some 34), .move (.tmp 81), none, []⟩]
def k6x17 : AC := .seq (.seq (.block 1 (.seq (.ops false [
     ⟨(some 36), .move (.tmp 34), none, []⟩,
     ⟨(some 10), .move (.tmp 36), none, []⟩]) k6x22)) k6x21) k6x20
def k6x16 : AC := .seq (.seq (.cond (.tmp 35)
   (.skip)
   (.seq (.mask 560) k6x19)) k6x18) k6x17
def k6x15 : AC := .seq (.ops false [
    ⟨(some 35), .bin .other .lss (.tmp 34) (.tmp 33), none, []⟩]) k6x16
def k6x14 : AC := .mask 560
def k6x13 : AC := .seq (.block 0 (.loop 25769804348 560 k6x15)) k6x14
def k6x31 : AC := .ret
def k6x30 : AC := .seq (.mask 256) k6x31
def k6x12 : AC := .seq (.ops false [
    ⟨(some 82), .load (.agg [(.int .i64), .sl, (.int .i64), .sl]) (.tmp 4), none, []⟩,
    ⟨(some 83), .load (.agg [.sl, .sl, (.int .i64)]) (.tmp 5), none, []⟩,
    ⟨(some 85), .load (.agg [(.int .i64), .sl, (.int .i64), .sl]) (.tmp 4), none, []⟩,
    ⟨(some 86), .load (.agg [.sl, .sl, (.int .i64)]) (.tmp 9), none, []⟩,
    ⟨(some 84), .call 16 [(.tmp 82), (.tmp 83)] [(.cell (.int .i64))] (.int .i64 0), none, [.load 4 4 none, .load 3 9 none]⟩,
    ⟨(some 87), .call 16 [(.tmp 85), (.tmp 86)] [(.cell (.int .i64))] (.int .i64 0), none, []⟩,
    ⟨(some 88), .bin .other .eql (.tmp 84) (.tmp 87), none, []⟩,
    ⟨(some 8), .move (.tmp 88), none, []⟩]) k6x30
def k6x11 : AC := .seq (.seq (.ops false [
    ⟨(some 31), .fieldAddr 0 (.tmp 9), none, []⟩,
    ⟨(some 32), .load (.cell .sl) (.tmp 31), none, []⟩,
    ⟨(some 33), .lenSl (.tmp 32), none, []⟩,
    ⟨(some 34), .move (.c (.int .i64 0)), none, []⟩]) k6x13) k6x12
def k6x6 : AC := .seq (.ops false [
    ⟨(some 22), .fieldAddr 0 (.tmp 5), none, []⟩,
    ⟨(some 23), .load (.cell .sl) (.tmp 22), none, []⟩,
    ⟨(some 25), .fieldAddr 1 (.tmp 5), none, []⟩,
    ⟨(some 26), .load (.cell .sl) (.tmp 25), none, []⟩,
    ⟨(some 28), .fieldAddr 2 (.tmp 5), none, []⟩,
    ⟨(some 29), .load (.cell (.int .i64)) (.tmp 28), none, []⟩,
    ⟨(some 9), .allocL [(.sl .nil 0), (.sl .nil 0), (.int .i64 0)], none, []⟩,
    ⟨(some 24), .call 18 [(.tmp 23)] [(.cell .sl)] (.sl .nil 0), none, [.load 1 25 none, .load 1 28 none]⟩,
    ⟨(some 27), .call 18 [(.tmp 26)] [(.cell .sl)] (.sl .nil 0), none, [.load 1 28 none]⟩,
    ⟨(some 30), .build [(.sl .nil 0), (.sl .nil 0), (.int .i64 0)] [(0, 1, (.tmp 24)), (1, 1, (.tmp 27)), (2, 1, (.tmp 29))], none, []⟩,
    ⟨none, .store 3 (.tmp 9) (.tmp 30), none, []⟩]) k6x11
def k6x1 : AC := .seq (.seq (.ops true [
    ⟨(some 13), .load (.agg [(.int .i64), .sl, (.int .i64), .sl]) (.tmp 4), none, []⟩,
    ⟨(some 14), .call 10 [(.tmp 13)] [(.cell .bool)] (.bool false), none, []⟩,
    ⟨(some 15), .un .not (.tmp 14), none, []⟩,
    ⟨(some 16), .move (.tmp 15), none, []⟩,
    ⟨(some 17), .load (.agg [(.int .i64), .sl, (.int .i64), .sl]) (.tmp 4), (some (16, false)), []⟩,
    ⟨(some 18), .load (.agg [.sl, .sl, (.int .i64)]) (.tmp 5), (some (16, false)), []⟩,
    ⟨(some 19), .call 17 [(.tmp 17), (.tmp 18)] [(.cell (.int .i64))] (.int .i64 0), (some (16, false)), []⟩,
    ⟨(some 20), .bin .other .neq (.tmp 19) (.c (.int .i64 0)), (some (16, false)), []⟩,
    ⟨(some 21), .pick (.tmp 16) (.c (.bool true)) (.tmp 20), none, []⟩]) k6x7) k6x6
def k6x0 : AC := .seq (.seq (.ops false [
    ⟨(some 11), .call 8 [] [(.cell .bool)] (.bool false), none, []⟩,
    ⟨(some 12), .un .not (.tmp 11), none, []⟩]) k6x2) k6x1
/-- provenance/provenancekeep4.AlloccheckRenames -/
def c6 : AFn := ⟨89, [.tmp 8],
  .seq (.ops false [
    ⟨(some 4), .boxL (.tmp 0), none, []⟩,
    ⟨(some 5), .boxL (.tmp 1), none, []⟩,
    ⟨(some 8), .move (.c (.bool false)), none, []⟩]) k6x0⟩
def S6xe0 (i4x0 : Int) (s4x1 : SA) (n4x1 : Nat) (i4x2 : Int) (s4x3 : SA) (n4x3 : Nat) (s5x0 : SA) (n5x0 : Nat) (s5x1 : SA) (n5x1 : Nat) (i5x2 : Int) (s9x0 : SA) (n9x0 : Nat) (s9x1 : SA) (n9x1 : Nat) (i9x2 : Int) (h : Heap) : St := ⟨(rep 4 (.box [(.int .i64 i4x0), (.sl s4x1 n4x1), (.int .i64 i4x2), (.sl s4x3 n4x3)] :: (.box [(.sl s5x0 n5x0), (.sl s5x1 n5x1), (.int .i64 i5x2)] :: (rep 3 (.box [(.sl s9x0 n9x0), (.sl s9x1 n9x1), (.int .i64 i9x2)] :: (rep 79 [])))))), h⟩
noncomputable def Q6x15 (M : Mk) (C : Cal) : Kont (AV × Heap) := (blockQ 0 (seqQ (evalE M C k6x14) (seqQ (evalE M C k6x12) (endQ [.tmp 8]))))
noncomputable def L6x15 (i2 : Int) (i3 : Int) (i4x0 : Int) (s4x1 : SA) (n4x1 : Nat) (i4x2 : Int) (s4x3 : SA) (n4x3 : Nat) (s5x0 : SA) (n5x0 : Nat) (s5x1 : SA) (n5x1 : Nat) (i5x2 : Int) (s9x0 : SA) (n9x0 : Nat) (s9x1 : SA) (n9x1 : Nat) (i9x2 : Int) (i33 : Int) (i34 : Int) (h : Heap) (Q : Kont R) : Option R := loopE (evalE M C k6x15) 25769804348 560 ⟨(.any :: .any :: (.g [] true (.int .i64 i2) :: (.g [] true (.int .i64 i3) :: (.box [(.int .i64 i4x0), (.sl s4x1 n4x1), (.int .i64 i4x2), (.sl s4x3 n4x3)] :: (.box [(.sl s5x0 n5x0), (.sl s5x1 n5x1), (.int .i64 i5x2)] :: (rep 3 (.box [(.sl s9x0 n9x0), (.sl s9x1 n9x1), (.int .i64 i9x2)] :: (rep 23 (.g [] true (.int .i64 i33) :: (.g [] true (.int .i64 i34) :: (rep 54 []))))))))))), h⟩ Q
noncomputable def J6x26 (M : Mk) (C : Cal) (i2 : Int) (i3 : Int) (i4x0 : Int) (s4x1 : SA) (n4x1 : Nat) (i4x2 : Int) (s4x3 : SA) (n4x3 : Nat) (s5x0 : SA) (n5x0 : Nat) (s5x1 : SA) (n5x1 : Nat) (i5x2 : Int) (s9x0 : SA) (n9x0 : Nat) (s9x1 : SA) (n9x1 : Nat) (i9x2 : Int) (i10 : Int) (i33 : Int) (i34 : Int) (h : Heap) (Q : Kont R) : Option R := M R (seqQ (evalE M C k6x23) (blockQ 1 (seqQ (evalE M C k6x21) (seqQ (evalE M C k6x20) (roundQ M C k6x15 25769804348 560 Q))))) (.any :: .any :: (.g [] true (.int .i64 i2) :: (.g [] true (.int .i64 i3) :: (.box [(.int .i64 i4x0), (.sl s4x1 n4x1), (.int .i64 i4x2), (.sl s4x3 n4x3)] :: (.box [(.sl s5x0 n5x0), (.sl s5x1 n5x1), (.int .i64 i5x2)] :: (rep 3 (.box [(.sl s9x0 n9x0), (.sl s9x1 n9x1), (.int .i64 i9x2)] :: (.g [] true (.int .i64 i10) :: (rep 22 (.g [] true (.int .i64 i33) :: (.g [] true (.int .i64 i34) :: (rep 54 [])))))))))))) h
noncomputable def J6x29 (M : Mk) (C : Cal) (i2 : Int) (i3 : Int) (i4x0 : Int) (s4x1 : SA) (n4x1 : Nat) (i4x2 : Int) (s4x3 : SA) (n4x3 : Nat) (s5x0 : SA) (n5x0 : Nat) (s5x1 : SA) (n5x1 : Nat) (i5x2 : Int) (s9x0 : SA) (n9x0 : Nat) (s9x1 : SA) (n9x1 : Nat) (i9x2 : Int) (i33 : Int) (i34 : Int) (h : Heap) (Q : Kont R) : Option R := M R (blockQ 1 (seqQ (evalE M C k6x21) (seqQ (evalE M C k6x20) (roundQ M C k6x15 25769804348 560 Q)))) (.any :: .any :: (.g [] true (.int .i64 i2) :: (.g [] true (.int .i64 i3) :: (.box [(.int .i64 i4x0), (.sl s4x1 n4x1), (.int .i64 i4x2), (.sl s4x3 n4x3)] :: (.box [(.sl s5x0 n5x0), (.sl s5x1 n5x1), (.int .i64 i5x2)] :: (rep 3 (.box [(.sl s9x0 n9x0), (.sl s9x1 n9x1), (.int .i64 i9x2)] :: (rep 23 (.g [] true (.int .i64 i33) :: (.g [] true (.int .i64 i34) :: (rep 54 []))))))))))) h
theorem r6 (i0x0 : Int) (s0x1 : SA) (n0x1 : Nat) (i0x2 : Int) (s0x3 : SA) (n0x3 : Nat) (s1x0 : SA) (n1x0 : Nat) (s1x1 : SA) (n1x1 : Nat) (i1x2 : Int) (i2 : Int) (i3 : Int) (h : Heap) : runE M C c6 [(.agg [(.int .i64 i0x0), (.sl s0x1 n0x1), (.int .i64 i0x2), (.sl s0x3 n0x3)]), (.agg [(.sl s1x0 n1x0), (.sl s1x1 n1x1), (.int .i64 i1x2)]), (.int .i64 i2), (.int .i64 i3)] h = (
  (C 8 [] h).bind fun r11 =>
  gB (some r11.1) true fun b11 =>
  if (!b11) = true then
    (
    some ((.bool false), r11.2)
    )
  else
    (
    (C 10 [(.agg [(.int .i64 i0x0), (.sl s0x1 n0x1), (.int .i64 i0x2), (.sl s0x3 n0x3)])] r11.2).bind fun r14 =>
    gB (some r14.1) true fun b14 =>
    chk ((!(!b14)) = true → 0 + 4 ≤ 4) <|
    gI .i64 (some (.int .i64 i0x0)) (!(!b14)) fun i17x0 =>
    gL (some (.sl s0x1 n0x1)) (!(!b14)) fun s17x1 n17x1 =>
    gI .i64 (some (.int .i64 i0x2)) (!(!b14)) fun i17x2 =>
    gL (some (.sl s0x3 n0x3)) (!(!b14)) fun s17x3 n17x3 =>
    chk ((!(!b14)) = true → 0 + 3 ≤ 3) <|
    gL (some (.sl s1x0 n1x0)) (!(!b14)) fun s18x0 n18x0 =>
    gL (some (.sl s1x1 n1x1)) (!(!b14)) fun s18x1 n18x1 =>
    gI .i64 (some (.int .i64 i1x2)) (!(!b14)) fun i18x2 =>
    (callO (!(!b14)) (C 17 [(.agg [(.int .i64 i17x0), (.sl s17x1 n17x1), (.int .i64 i17x2), (.sl s17x3 n17x3)]), (.agg [(.sl s18x0 n18x0), (.sl s18x1 n18x1), (.int .i64 i18x2)])] r14.2) (.int .i64 0) r14.2).bind fun r19 =>
    gI .i64 (some r19.1) (!(!b14)) fun i19 =>
    letK ((!decide ((i19 : Int) = 0)) : Bool) fun b20 =>
    letK ((if (!b14) = true then true else b20) : Bool) fun b21 =>
    if b21 = true then
      (
      some ((.bool true), r19.2)
      )
    else
      (
      (C 18 [(.sl s1x0 n1x0)] r19.2).bind fun r24 =>
      gL (some r24.1) true fun s24 n24 =>
      (C 18 [(.sl s1x1 n1x1)] r24.2).bind fun r27 =>
      gL (some r27.1) true fun s27 n27 =>
      L6x15 M C i2 i3 i0x0 s0x1 n0x1 i0x2 s0x3 n0x3 s1x0 n1x0 s1x1 n1x1 i1x2 s24 n24 s27 n27 i1x2 ((n24 : Nat) : Int) 0 r27.2 (Q6x15 M C)
      )
    )
  ) := by kernel_rfl
theorem cf6 : cFn Try.prog 6 = some c6 := by kernel_rfl
theorem e6 (i0x0 : Int) (s0x1 : SA) (n0x1 : Nat) (i0x2 : Int) (s0x3 : SA) (n0x3 : Nat) (s1x0 : SA) (n1x0 : Nat) (s1x1 : SA) (n1x1 : Nat) (i1x2 : Int) (i2 : Int) (i3 : Int) (h : Heap) : TEq (E 6 [(.agg [(.int .i64 i0x0), (.sl s0x1 n0x1), (.int .i64 i0x2), (.sl s0x3 n0x3)]), (.agg [(.sl s1x0 n1x0), (.sl s1x1 n1x1), (.int .i64 i1x2)]), (.int .i64 i2), (.int .i64 i3)] h) (r6 mk0 E i0x0 s0x1 n0x1 i0x2 s0x3 n0x3 s1x0 n1x0 s1x1 n1x1 i1x2 i2 i3 h) := (EV_eq (P := Try.prog) (T := T0) rfl cf6 [(.agg [(.int .i64 i0x0), (.sl s0x1 n0x1), (.int .i64 i0x2), (.sl s0x3 n0x3)]), (.agg [(.sl s1x0 n1x0), (.sl s1x1 n1x1), (.int .i64 i1x2)]), (.int .i64 i2), (.int .i64 i3)] h).trans (r6 mk0 E i0x0 s0x1 n0x1 i0x2 s0x3 n0x3 s1x0 n1x0 s1x1 n1x1 i1x2 i2 i3 h)
theorem L6x15xaux (i2 : Int) (i3 : Int) (i4x0 : Int) (s4x1 : SA) (n4x1 : Nat) (i4x2 : Int) (s4x3 : SA) (n4x3 : Nat) (s5x0 : SA) (n5x0 : Nat) (s5x1 : SA) (n5x1 : Nat) (i5x2 : Int) (s9x0 : SA) (n9x0 : Nat) (s9x1 : SA) (n9x1 : Nat) (i9x2 : Int) (i33 : Int) (i34 : Int) (h : Heap) (Q : Kont R) : (restrF 25769804348 ⟨(.any :: .any :: (.g [] true (.int .i64 i2) :: (.g [] true (.int .i64 i3) :: (.box [(.int .i64 i4x0), (.sl s4x1 n4x1), (.int .i64 i4x2), (.sl s4x3 n4x3)] :: (.box [(.sl s5x0 n5x0), (.sl s5x1 n5x1), (.int .i64 i5x2)] :: (rep 3 (.box [(.sl s9x0 n9x0), (.sl s9x1 n9x1), (.int .i64 i9x2)] :: (rep 23 (.g [] true (.int .i64 i33) :: (.g [] true (.int .i64 i34) :: (rep 54 []))))))))))), h⟩ fun σ => evalE M C k6x15 σ (roundQ M C k6x15 25769804348 560 Q)) = (
  letK ((decide ((i34 : Int) < i33)) : Bool) fun b35 =>
  if b35 = true then
    (
    chk (true = true → (0 : Int) ≤ i34 ∧ (i34 : Int) < ((n9x0 : Nat) : Int)) <|
    atP (adP s9x0) true fun a40 =>
    gI .i64 (ld1 h (Ad.add a40 (Int.toNat i34 * 1))) true fun i41 =>
    letK ((decide ((0 : Int) < i41)) : Bool) fun b42 =>
    if b42 = true then
      (
      chk (true = true → (0 : Int) ≤ i34 ∧ (i34 : Int) < ((n9x0 : Nat) : Int)) <|
      atP (adP s9x0) true fun a49 =>
      gI .i64 (ld1 h (Ad.add a49 (Int.toNat i34 * 1))) true fun i50 =>
      letK ((IntKind.wrap .i64 (i50 - 1)) : Int) fun i51 =>
      (C 11 [(.int .i64 i2), (.int .i64 10)] h).bind fun r53 =>
      gI .i64 (some r53.1) true fun i53 =>
      chkC (true = true → ldN r53.2 (Ad.add a49 (Int.toNat i34 * 1)) 1 = ldN h (Ad.add a49 (Int.toNat i34 * 1)) 1) <|
      letK ((IntKind.wrap .i64 (i51 + i53)) : Int) fun i54 =>
      (C 11 [(.int .i64 i54), (.int .i64 10)] r53.2).bind fun r55 =>
      gI .i64 (some r55.1) true fun i55 =>
      letK ((IntKind.wrap .i64 (1 + i55)) : Int) fun i56 =>
      chk (true = true → (0 : Int) ≤ i34 ∧ (i34 : Int) < ((n9x0 : Nat) : Int)) <|
      atP (adP s9x0) true fun a57 =>
      (st1 r55.2 (Ad.add a57 (Int.toNat i34 * 1)) (.int .i64 i56)).bind fun h_2 =>
      J6x26 M C i2 i3 i4x0 s4x1 n4x1 i4x2 s4x3 n4x3 s5x0 n5x0 s5x1 n5x1 i5x2 s9x0 n9x0 s9x1 n9x1 i9x2 i34 i33 i34 h_2 Q
      )
    else
      (
      J6x26 M C i2 i3 i4x0 s4x1 n4x1 i4x2 s4x3 n4x3 s5x0 n5x0 s5x1 n5x1 i5x2 s9x0 n9x0 s9x1 n9x1 i9x2 i34 i33 i34 h Q
      )
    )
  else
    (
    Q (.exit 0) (S6xe0 i4x0 s4x1 n4x1 i4x2 s4x3 n4x3 s5x0 n5x0 s5x1 n5x1 i5x2 s9x0 n9x0 s9x1 n9x1 i9x2 h)
    )
  ) := by kernel_rfl
theorem L6x15xeq (i2 : Int) (i3 : Int) (i4x0 : Int) (s4x1 : SA) (n4x1 : Nat) (i4x2 : Int) (s4x3 : SA) (n4x3 : Nat) (s5x0 : SA) (n5x0 : Nat) (s5x1 : SA) (n5x1 : Nat) (i5x2 : Int) (s9x0 : SA) (n9x0 : Nat) (s9x1 : SA) (n9x1 : Nat) (i9x2 : Int) (i33 : Int) (i34 : Int) (h : Heap) (Q : Kont R) : TEq (L6x15 mk0 C i2 i3 i4x0 s4x1 n4x1 i4x2 s4x3 n4x3 s5x0 n5x0 s5x1 n5x1 i5x2 s9x0 n9x0 s9x1 n9x1 i9x2 i33 i34 h Q) (L6x15xaux mk0 C i2 i3 i4x0 s4x1 n4x1 i4x2 s4x3 n4x3 s5x0 n5x0 s5x1 n5x1 i5x2 s9x0 n9x0 s9x1 n9x1 i9x2 i33 i34 h Q) := loop_eqn C k6x15 25769804348 560 (.any :: .any :: (.g [] true (.int .i64 i2) :: (.g [] true (.int .i64 i3) :: (.box [(.int .i64 i4x0), (.sl s4x1 n4x1), (.int .i64 i4x2), (.sl s4x3 n4x3)] :: (.box [(.sl s5x0 n5x0), (.sl s5x1 n5x1), (.int .i64 i5x2)] :: (rep 3 (.box [(.sl s9x0 n9x0), (.sl s9x1 n9x1), (.int .i64 i9x2)] :: (rep 23 (.g [] true (.int .i64 i33) :: (.g [] true (.int .i64 i34) :: (rep 54 []))))))))))) h Q (by kernel_rfl) (L6x15xaux mk0 C i2 i3 i4x0 s4x1 n4x1 i4x2 s4x3 n4x3 s5x0 n5x0 s5x1 n5x1 i5x2 s9x0 n9x0 s9x1 n9x1 i9x2 i33 i34 h Q)
theorem J6x26xaux (M : Mk) (C : Cal) (i2 : Int) (i3 : Int) (i4x0 : Int) (s4x1 : SA) (n4x1 : Nat) (i4x2 : Int) (s4x3 : SA) (n4x3 : Nat) (s5x0 : SA) (n5x0 : Nat) (s5x1 : SA) (n5x1 : Nat) (i5x2 : Int) (s9x0 : SA) (n9x0 : Nat) (s9x1 : SA) (n9x1 : Nat) (i9x2 : Int) (i10 : Int) (i33 : Int) (i34 : Int) (h : Heap) (Q : Kont R) : (forceK tk (.any :: .any :: (.g [] true (.int .i64 i2) :: (.g [] true (.int .i64 i3) :: (.box [(.int .i64 i4x0), (.sl s4x1 n4x1), (.int .i64 i4x2), (.sl s4x3 n4x3)] :: (.box [(.sl s5x0 n5x0), (.sl s5x1 n5x1), (.int .i64 i5x2)] :: (rep 3 (.box [(.sl s9x0 n9x0), (.sl s9x1 n9x1), (.int .i64 i9x2)] :: (.g [] true (.int .i64 i10) :: (rep 22 (.g [] true (.int .i64 i33) :: (.g [] true (.int .i64 i34) :: (rep 54 [])))))))))))) fun e => (seqQ (evalE M C k6x23) (blockQ 1 (seqQ (evalE M C k6x21) (seqQ (evalE M C k6x20) (roundQ M C k6x15 25769804348 560 Q))))) .normal ⟨e, h⟩) = (
  chk (true = true → (0 : Int) ≤ i10 ∧ (i10 : Int) < ((n9x1 : Nat) : Int)) <|
  atP (adP s9x1) true fun a61 =>
  gI .i64 (ld1 h (Ad.add a61 (Int.toNat i10 * 1))) true fun i62 =>
  letK ((decide ((0 : Int) ≤ i62)) : Bool) fun b63 =>
  if b63 = true then
    (
    chk (true = true → (0 : Int) ≤ i10 ∧ (i10 : Int) < ((n9x1 : Nat) : Int)) <|
    atP (adP s9x1) true fun a70 =>
    gI .i64 (ld1 h (Ad.add a70 (Int.toNat i10 * 1))) true fun i71 =>
    (C 11 [(.int .i64 i3), (.int .i64 i9x2)] h).bind fun r75 =>
    gI .i64 (some r75.1) true fun i75 =>
    chkC (true = true → ldN r75.2 (Ad.add a70 (Int.toNat i10 * 1)) 1 = ldN h (Ad.add a70 (Int.toNat i10 * 1)) 1) <|
    letK ((IntKind.wrap .i64 (i71 + i75)) : Int) fun i76 =>
    (C 11 [(.int .i64 i76), (.int .i64 i9x2)] r75.2).bind fun r79 =>
    gI .i64 (some r79.1) true fun i79 =>
    chk (true = true → (0 : Int) ≤ i10 ∧ (i10 : Int) < ((n9x1 : Nat) : Int)) <|
    atP (adP s9x1) true fun a80 =>
    (st1 r79.2 (Ad.add a80 (Int.toNat i10 * 1)) (.int .i64 i79)).bind fun h_2 =>
    J6x29 M C i2 i3 i4x0 s4x1 n4x1 i4x2 s4x3 n4x3 s5x0 n5x0 s5x1 n5x1 i5x2 s9x0 n9x0 s9x1 n9x1 i9x2 i33 i34 h_2 Q
    )
  else
    (
    J6x29 M C i2 i3 i4x0 s4x1 n4x1 i4x2 s4x3 n4x3 s5x0 n5x0 s5x1 n5x1 i5x2 s9x0 n9x0 s9x1 n9x1 i9x2 i33 i34 h Q
    )
  ) := by kernel_rfl
theorem J6x26xeq (C : Cal) (i2 : Int) (i3 : Int) (i4x0 : Int) (s4x1 : SA) (n4x1 : Nat) (i4x2 : Int) (s4x3 : SA) (n4x3 : Nat) (s5x0 : SA) (n5x0 : Nat) (s5x1 : SA) (n5x1 : Nat) (i5x2 : Int) (s9x0 : SA) (n9x0 : Nat) (s9x1 : SA) (n9x1 : Nat) (i9x2 : Int) (i10 : Int) (i33 : Int) (i34 : Int) (h : Heap) (Q : Kont R) : TEq (J6x26 mk0 C i2 i3 i4x0 s4x1 n4x1 i4x2 s4x3 n4x3 s5x0 n5x0 s5x1 n5x1 i5x2 s9x0 n9x0 s9x1 n9x1 i9x2 i10 i33 i34 h Q) (J6x26xaux mk0 C i2 i3 i4x0 s4x1 n4x1 i4x2 s4x3 n4x3 s5x0 n5x0 s5x1 n5x1 i5x2 s9x0 n9x0 s9x1 n9x1 i9x2 i10 i33 i34 h Q) := join_eqn (seqQ (evalE mk0 C k6x23) (blockQ 1 (seqQ (evalE mk0 C k6x21) (seqQ (evalE mk0 C k6x20) (roundQ mk0 C k6x15 25769804348 560 Q))))) (.any :: .any :: (.g [] true (.int .i64 i2) :: (.g [] true (.int .i64 i3) :: (.box [(.int .i64 i4x0), (.sl s4x1 n4x1), (.int .i64 i4x2), (.sl s4x3 n4x3)] :: (.box [(.sl s5x0 n5x0), (.sl s5x1 n5x1), (.int .i64 i5x2)] :: (rep 3 (.box [(.sl s9x0 n9x0), (.sl s9x1 n9x1), (.int .i64 i9x2)] :: (.g [] true (.int .i64 i10) :: (rep 22 (.g [] true (.int .i64 i33) :: (.g [] true (.int .i64 i34) :: (rep 54 [])))))))))))) h (J6x26xaux mk0 C i2 i3 i4x0 s4x1 n4x1 i4x2 s4x3 n4x3 s5x0 n5x0 s5x1 n5x1 i5x2 s9x0 n9x0 s9x1 n9x1 i9x2 i10 i33 i34 h Q)
theorem J6x29xaux (M : Mk) (C : Cal) (i2 : Int) (i3 : Int) (i4x0 : Int) (s4x1 : SA) (n4x1 : Nat) (i4x2 : Int) (s4x3 : SA) (n4x3 : Nat) (s5x0 : SA) (n5x0 : Nat) (s5x1 : SA) (n5x1 : Nat) (i5x2 : Int) (s9x0 : SA) (n9x0 : Nat) (s9x1 : SA) (n9x1 : Nat) (i9x2 : Int) (i33 : Int) (i34 : Int) (h : Heap) (Q : Kont R) : (forceK tk (.any :: .any :: (.g [] true (.int .i64 i2) :: (.g [] true (.int .i64 i3) :: (.box [(.int .i64 i4x0), (.sl s4x1 n4x1), (.int .i64 i4x2), (.sl s4x3 n4x3)] :: (.box [(.sl s5x0 n5x0), (.sl s5x1 n5x1), (.int .i64 i5x2)] :: (rep 3 (.box [(.sl s9x0 n9x0), (.sl s9x1 n9x1), (.int .i64 i9x2)] :: (rep 23 (.g [] true (.int .i64 i33) :: (.g [] true (.int .i64 i34) :: (rep 54 []))))))))))) fun e => (blockQ 1 (seqQ (evalE M C k6x21) (seqQ (evalE M C k6x20) (roundQ M C k6x15 25769804348 560 Q)))) .normal ⟨e, h⟩) = (
  letK ((IntKind.wrap .i64 (i34 + 1)) : Int) fun i81 =>
  L6x15 M C i2 i3 i4x0 s4x1 n4x1 i4x2 s4x3 n4x3 s5x0 n5x0 s5x1 n5x1 i5x2 s9x0 n9x0 s9x1 n9x1 i9x2 i33 i81 h Q
  ) := by kernel_rfl
theorem J6x29xeq (C : Cal) (i2 : Int) (i3 : Int) (i4x0 : Int) (s4x1 : SA) (n4x1 : Nat) (i4x2 : Int) (s4x3 : SA) (n4x3 : Nat) (s5x0 : SA) (n5x0 : Nat) (s5x1 : SA) (n5x1 : Nat) (i5x2 : Int) (s9x0 : SA) (n9x0 : Nat) (s9x1 : SA) (n9x1 : Nat) (i9x2 : Int) (i33 : Int) (i34 : Int) (h : Heap) (Q : Kont R) : TEq (J6x29 mk0 C i2 i3 i4x0 s4x1 n4x1 i4x2 s4x3 n4x3 s5x0 n5x0 s5x1 n5x1 i5x2 s9x0 n9x0 s9x1 n9x1 i9x2 i33 i34 h Q) (J6x29xaux mk0 C i2 i3 i4x0 s4x1 n4x1 i4x2 s4x3 n4x3 s5x0 n5x0 s5x1 n5x1 i5x2 s9x0 n9x0 s9x1 n9x1 i9x2 i33 i34 h Q) := join_eqn (blockQ 1 (seqQ (evalE mk0 C k6x21) (seqQ (evalE mk0 C k6x20) (roundQ mk0 C k6x15 25769804348 560 Q)))) (.any :: .any :: (.g [] true (.int .i64 i2) :: (.g [] true (.int .i64 i3) :: (.box [(.int .i64 i4x0), (.sl s4x1 n4x1), (.int .i64 i4x2), (.sl s4x3 n4x3)] :: (.box [(.sl s5x0 n5x0), (.sl s5x1 n5x1), (.int .i64 i5x2)] :: (rep 3 (.box [(.sl s9x0 n9x0), (.sl s9x1 n9x1), (.int .i64 i9x2)] :: (rep 23 (.g [] true (.int .i64 i33) :: (.g [] true (.int .i64 i34) :: (rep 54 []))))))))))) h (J6x29xaux mk0 C i2 i3 i4x0 s4x1 n4x1 i4x2 s4x3 n4x3 s5x0 n5x0 s5x1 n5x1 i5x2 s9x0 n9x0 s9x1 n9x1 i9x2 i33 i34 h Q)
theorem X6x15xe0 (M : Mk) (C : Cal) (i4x0 : Int) (s4x1 : SA) (n4x1 : Nat) (i4x2 : Int) (s4x3 : SA) (n4x3 : Nat) (s5x0 : SA) (n5x0 : Nat) (s5x1 : SA) (n5x1 : Nat) (i5x2 : Int) (s9x0 : SA) (n9x0 : Nat) (s9x1 : SA) (n9x1 : Nat) (i9x2 : Int) (h : Heap) : Q6x15 M C (.exit 0) (S6xe0 i4x0 s4x1 n4x1 i4x2 s4x3 n4x3 s5x0 n5x0 s5x1 n5x1 i5x2 s9x0 n9x0 s9x1 n9x1 i9x2 h) = (
  (C 16 [(.agg [(.int .i64 i4x0), (.sl s4x1 n4x1), (.int .i64 i4x2), (.sl s4x3 n4x3)]), (.agg [(.sl s5x0 n5x0), (.sl s5x1 n5x1), (.int .i64 i5x2)])] h).bind fun r84 =>
  gI .i64 (some r84.1) true fun i84 =>
  (C 16 [(.agg [(.int .i64 i4x0), (.sl s4x1 n4x1), (.int .i64 i4x2), (.sl s4x3 n4x3)]), (.agg [(.sl s9x0 n9x0), (.sl s9x1 n9x1), (.int .i64 i9x2)])] r84.2).bind fun r87 =>
  gI .i64 (some r87.1) true fun i87 =>
  letK ((decide ((i84 : Int) = i87)) : Bool) fun b88 =>
  some ((.bool b88), r87.2)
  ) := by kernel_rfl
end
end Go.Proofs.Ytnmdadadjneaiaa.D
