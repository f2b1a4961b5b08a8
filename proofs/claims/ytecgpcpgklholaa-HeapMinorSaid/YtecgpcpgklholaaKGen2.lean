/- Parts of the proof, printed. -/
import Derived.Test.YtecgpcpgklholaaKGen
import Derived.KernelRfl
set_option linter.unusedVariables false
set_option maxRecDepth 100000
namespace Go.Proofs.Ytecgpcpgklholaa.K
open Go Go.Proofs.Ytecgpcpgklholaa.Abs Go.Proofs
section
variable {R : Type} (M : Mk) (C : Cal)
def k36x5 : AC := .ret
def k36x4 : AC := .seq (.mask 16) k36x5
def k36x3 : AC := .mask 2
def k36x2 : AC := .seq (.cond (.tmp 19)
   (.seq (.ops false [
      ⟨(some 4), .move (.c (.int .i64 (-1))), none, []⟩]) k36x4)
   (.skip)) k36x3
def k36x7 : AC := .ret
def k36x6 : AC := .seq (.mask 16) k36x7
def k36x1 : AC := .seq (.ops false [
    ⟨(some 20), .move (.tmp 1), none, []⟩,
    ⟨(some 21), .bin .other .quo (.tmp 20) (.c (.int .i64 2)), none, []⟩,
    ⟨(some 4), .move (.tmp 21), none, []⟩]) k36x6
def k36x0 : AC := .seq (.seq (.ops true [
    ⟨(some 5), .move (.tmp 1), none, []⟩,
    ⟨(some 6), .bin .other .and (.tmp 5) (.c (.int .i64 1)), none, []⟩,
    ⟨(some 7), .bin .other .neq (.tmp 6) (.c (.int .i64 0)), none, []⟩,
    ⟨(some 8), .move (.tmp 7), none, []⟩,
    ⟨(some 9), .move (.tmp 1), (some (8, false)), []⟩,
    ⟨(some 10), .bin .other .quo (.tmp 9) (.c (.int .i64 2)), (some (8, false)), []⟩,
    ⟨(some 11), .move (.tmp 0), (some (8, false)), []⟩,
    ⟨(some 12), .nilCheck (.tmp 11), (some (8, false)), []⟩,
    ⟨(some 13), .fieldAddr 0 (.tmp 12), (some (8, false)), []⟩,
    ⟨(some 14), .load (.cell .sl) (.tmp 13), (some (8, false)), []⟩,
    ⟨(some 15), .lenSl (.tmp 14), (some (8, false)), []⟩,
    ⟨(some 16), .bin .other .sub (.tmp 15) (.c (.int .i64 1)), (some (8, false)), []⟩,
    ⟨(some 17), .call 26 [(.tmp 10), (.c (.int .i64 1)), (.tmp 16)] [(.cell .bool)] (.bool false), (some (8, false)), []⟩,
    ⟨(some 18), .un .not (.tmp 17), (some (8, false)), []⟩,
    ⟨(some 19), .pick (.tmp 8) (.c (.bool true)) (.tmp 18), none, []⟩]) k36x2) k36x1
/-- (*provenance/heap.Heap).index -/
def c36 : AFn := ⟨22, [.tmp 4],
  .seq (.ops false [
    ⟨(some 4), .move (.c (.int .i64 0)), none, []⟩]) k36x0⟩
theorem r36 (p0 : Option Ad) (i1 : Int) (h : Heap) : runE M C c36 [(.ptr p0), (.int .i64 i1)] h = (
  letK ((Go.bits .and .i64 i1 1) : Int) fun i6 =>
  letK ((!decide ((i6 : Int) = 0)) : Bool) fun b7 =>
  chk ((!b7) = true → (2 : Int) ≠ 0) <|
  letK ((IntKind.wrap .i64 (Int.tdiv i1 2)) : Int) fun i10 =>
  atP p0 (!b7) fun a12 =>
  atP (some a12) (!b7) fun a13 =>
  atP (some (Ad.add a13 0)) (!b7) fun a14 =>
  gL (ld1 h a14) (!b7) fun s14 n14 =>
  letK ((IntKind.wrap .i64 (((n14 : Nat) : Int) - 1)) : Int) fun i16 =>
  (callO (!b7) (C 26 [(.int .i64 i10), (.int .i64 1), (.int .i64 i16)] h) (.bool false) h).bind fun r17 =>
  gB (some r17.1) (!b7) fun b17 =>
  letK ((if b7 = true then true else (!b17)) : Bool) fun b19 =>
  if b19 = true then
    (
    some ((.int .i64 (-1)), r17.2)
    )
  else
    (
    letK ((IntKind.wrap .i64 (Int.tdiv i1 2)) : Int) fun i21 =>
    some ((.int .i64 i21), r17.2)
    )
  ) := by kernel_rfl
theorem cf36 : cFn Try.prog 36 = some c36 := by kernel_rfl
theorem e36 (p0 : Option Ad) (i1 : Int) (h : Heap) : E 36 [(.ptr p0), (.int .i64 i1)] h = (
  letK ((Go.bits .and .i64 i1 1) : Int) fun i6 =>
  letK ((!decide ((i6 : Int) = 0)) : Bool) fun b7 =>
  chk ((!b7) = true → (2 : Int) ≠ 0) <|
  letK ((IntKind.wrap .i64 (Int.tdiv i1 2)) : Int) fun i10 =>
  atP p0 (!b7) fun a12 =>
  atP (some a12) (!b7) fun a13 =>
  atP (some (Ad.add a13 0)) (!b7) fun a14 =>
  gL (ld1 h a14) (!b7) fun s14 n14 =>
  letK ((IntKind.wrap .i64 (((n14 : Nat) : Int) - 1)) : Int) fun i16 =>
  (callO (!b7) (E 26 [(.int .i64 i10), (.int .i64 1), (.int .i64 i16)] h) (.bool false) h).bind fun r17 =>
  gB (some r17.1) (!b7) fun b17 =>
  letK ((if b7 = true then true else (!b17)) : Bool) fun b19 =>
  if b19 = true then
    (
    some ((.int .i64 (-1)), r17.2)
    )
  else
    (
    letK ((IntKind.wrap .i64 (Int.tdiv i1 2)) : Int) fun i21 =>
    some ((.int .i64 i21), r17.2)
    )
  ) := (EV_eq (P := Try.prog) (T := T0) rfl cf36 [(.ptr p0), (.int .i64 i1)] h).trans (r36 mk0 E p0 i1 h)
def k21x6 : AC := .ret
def k21x5 : AC := .seq (.mask 64) k21x6
def k21x4 : AC := .mask 133
def k21x3 : AC := .seq (.cond (.tmp 12)
   (.seq (.ops false [
      ⟨(some 6), .move (.c (.int .i64 1)), none, []⟩]) k21x5)
   (.skip)) k21x4
def k21x11 : AC := .ret
def k21x10 : AC := .seq (.mask 64) k21x11
def k21x9 : AC := .mask 133
def k21x8 : AC := .seq (.cond (.tmp 15)
   (.seq (.ops false [
      ⟨(some 6), .move (.c (.int .i64 4)), none, []⟩]) k21x10)
   (.skip)) k21x9
def k21x14 : AC := .ret
def k21x13 : AC := .seq (.mask 64) k21x14
def k21x12 : AC := .seq (.ops false [
    ⟨(some 6), .move (.c (.int .i64 0)), none, []⟩]) k21x13
def k21x7 : AC := .seq (.ops false [
    ⟨(some 16), .move (.tmp 0), none, []⟩,
    ⟨(some 17), .move (.tmp 7), none, []⟩,
    ⟨(some 18), .move (.tmp 2), none, []⟩,
    ⟨(some 19), .call 29 [(.tmp 16), (.tmp 17), (.tmp 18)] [] .opq, none, []⟩]) k21x12
def k21x2 : AC := .seq (.seq (.ops false [
    ⟨(some 13), .move (.tmp 2), none, []⟩,
    ⟨(some 14), .call 26 [(.tmp 13), (.c (.int .i64 (-2147483648))), (.c (.int .i64 2147483647))] [(.cell .bool)] (.bool false), none, []⟩,
    ⟨(some 15), .un .not (.tmp 14), none, []⟩]) k21x8) k21x7
def k21x1 : AC := .seq (.seq (.ops false [
    ⟨(some 11), .move (.tmp 7), none, []⟩,
    ⟨(some 12), .bin .other .lss (.tmp 11) (.c (.int .i64 0)), none, []⟩]) k21x3) k21x2
def k21x0 : AC := .seq (.ops false [
    ⟨(some 8), .move (.tmp 0), none, []⟩,
    ⟨(some 9), .move (.tmp 1), none, []⟩,
    ⟨(some 10), .call 36 [(.tmp 8), (.tmp 9)] [(.cell (.int .i64))] (.int .i64 0), none, []⟩,
    ⟨(some 7), .move (.tmp 10), none, []⟩]) k21x1
/-- (*provenance/heap.Heap).Store -/
def c21 : AFn := ⟨20, [.tmp 6],
  .seq (.ops false [
    ⟨(some 6), .move (.c (.int .i64 0)), none, []⟩]) k21x0⟩
theorem r21 (p0 : Option Ad) (i1 : Int) (i2 : Int) (h : Heap) : runE M C c21 [(.ptr p0), (.int .i64 i1), (.int .i64 i2)] h = (
  (C 36 [(.ptr p0), (.int .i64 i1)] h).bind fun r10 =>
  gI .i64 (some r10.1) true fun i10 =>
  letK ((decide ((i10 : Int) < 0)) : Bool) fun b12 =>
  if b12 = true then
    (
    some ((.int .i64 1), r10.2)
    )
  else
    (
    (C 26 [(.int .i64 i2), (.int .i64 (-2147483648)), (.int .i64 2147483647)] r10.2).bind fun r14 =>
    gB (some r14.1) true fun b14 =>
    if (!b14) = true then
      (
      some ((.int .i64 4), r14.2)
      )
    else
      (
      (C 29 [(.ptr p0), (.int .i64 i10), (.int .i64 i2)] r14.2).bind fun r19 =>
      gT 0 r19.1 true fun u19 =>
      some ((.int .i64 0), r19.2)
      )
    )
  ) := by kernel_rfl
theorem cf21 : cFn Try.prog 21 = some c21 := by kernel_rfl
theorem e21 (p0 : Option Ad) (i1 : Int) (i2 : Int) (h : Heap) : E 21 [(.ptr p0), (.int .i64 i1), (.int .i64 i2)] h = (
  (E 36 [(.ptr p0), (.int .i64 i1)] h).bind fun r10 =>
  gI .i64 (some r10.1) true fun i10 =>
  letK ((decide ((i10 : Int) < 0)) : Bool) fun b12 =>
  if b12 = true then
    (
    some ((.int .i64 1), r10.2)
    )
  else
    (
    (E 26 [(.int .i64 i2), (.int .i64 (-2147483648)), (.int .i64 2147483647)] r10.2).bind fun r14 =>
    gB (some r14.1) true fun b14 =>
    if (!b14) = true then
      (
      some ((.int .i64 4), r14.2)
      )
    else
      (
      (E 29 [(.ptr p0), (.int .i64 i10), (.int .i64 i2)] r14.2).bind fun r19 =>
      gT 0 r19.1 true fun u19 =>
      some ((.int .i64 0), r19.2)
      )
    )
  ) := (EV_eq (P := Try.prog) (T := T0) rfl cf21 [(.ptr p0), (.int .i64 i1), (.int .i64 i2)] h).trans (r21 mk0 E p0 i1 i2 h)
def k22x6 : AC := .ret
def k22x5 : AC := .seq (.mask 48) k22x6
def k22x4 : AC := .mask 65
def k22x3 : AC := .seq (.cond (.tmp 11)
   (.seq (.ops false [
      ⟨(some 4), .move (.c (.int .i64 0)), none, []⟩,
      ⟨(some 5), .move (.c (.int .i64 1)), none, []⟩]) k22x5)
   (.skip)) k22x4
def k22x8 : AC := .ret
def k22x7 : AC := .seq (.mask 48) k22x8
def k22x2 : AC := .seq (.ops false [
    ⟨(some 12), .move (.tmp 0), none, []⟩,
    ⟨(some 13), .nilCheck (.tmp 12), none, []⟩,
    ⟨(some 14), .fieldAddr 0 (.tmp 13), none, []⟩,
    ⟨(some 15), .load (.cell .sl) (.tmp 14), none, []⟩,
    ⟨(some 16), .move (.tmp 6), none, []⟩,
    ⟨(some 17), .indexAddr 1 (.tmp 15) (.tmp 16), none, []⟩,
    ⟨(some 18), .load (.cell (.int .i64)) (.tmp 17), none, []⟩,
    ⟨(some 4), .move (.tmp 18), none, []⟩,
    ⟨(some 5), .move (.c (.int .i64 0)), none, []⟩]) k22x7
def k22x1 : AC := .seq (.seq (.ops false [
    ⟨(some 10), .move (.tmp 6), none, []⟩,
    ⟨(some 11), .bin .other .lss (.tmp 10) (.c (.int .i64 0)), none, []⟩]) k22x3) k22x2
def k22x0 : AC := .seq (.ops false [
    ⟨(some 7), .move (.tmp 0), none, []⟩,
    ⟨(some 8), .move (.tmp 1), none, []⟩,
    ⟨(some 9), .call 36 [(.tmp 7), (.tmp 8)] [(.cell (.int .i64))] (.int .i64 0), none, []⟩,
    ⟨(some 6), .move (.tmp 9), none, []⟩]) k22x1
/-- (*provenance/heap.Heap).Load -/
def c22 : AFn := ⟨19, [.tmp 4, .tmp 5],
  .seq (.ops false [
    ⟨(some 4), .move (.c (.int .i64 0)), none, []⟩,
    ⟨(some 5), .move (.c (.int .i64 0)), none, []⟩]) k22x0⟩
theorem r22 (p0 : Option Ad) (i1 : Int) (h : Heap) : runE M C c22 [(.ptr p0), (.int .i64 i1)] h = (
  (C 36 [(.ptr p0), (.int .i64 i1)] h).bind fun r9 =>
  gI .i64 (some r9.1) true fun i9 =>
  letK ((decide ((i9 : Int) < 0)) : Bool) fun b11 =>
  if b11 = true then
    (
    some (.tup [(.int .i64 0), (.int .i64 1)], r9.2)
    )
  else
    (
    atP p0 true fun a13 =>
    gL (ld1 r9.2 (Ad.add a13 0)) true fun s15 n15 =>
    chk (true = true → (0 : Int) ≤ i9 ∧ (i9 : Int) < ((n15 : Nat) : Int)) <|
    atP (adP s15) true fun a17 =>
    gI .i64 (ld1 r9.2 (Ad.add a17 (Int.toNat i9 * 1))) true fun i18 =>
    some (.tup [(.int .i64 i18), (.int .i64 0)], r9.2)
    )
  ) := by kernel_rfl
theorem cf22 : cFn Try.prog 22 = some c22 := by kernel_rfl
theorem e22 (p0 : Option Ad) (i1 : Int) (h : Heap) : E 22 [(.ptr p0), (.int .i64 i1)] h = (
  (E 36 [(.ptr p0), (.int .i64 i1)] h).bind fun r9 =>
  gI .i64 (some r9.1) true fun i9 =>
  letK ((decide ((i9 : Int) < 0)) : Bool) fun b11 =>
  if b11 = true then
    (
    some (.tup [(.int .i64 0), (.int .i64 1)], r9.2)
    )
  else
    (
    atP p0 true fun a13 =>
    gL (ld1 r9.2 (Ad.add a13 0)) true fun s15 n15 =>
    chk (true = true → (0 : Int) ≤ i9 ∧ (i9 : Int) < ((n15 : Nat) : Int)) <|
    atP (adP s15) true fun a17 =>
    gI .i64 (ld1 r9.2 (Ad.add a17 (Int.toNat i9 * 1))) true fun i18 =>
    some (.tup [(.int .i64 i18), (.int .i64 0)], r9.2)
    )
  ) := (EV_eq (P := Try.prog) (T := T0) rfl cf22 [(.ptr p0), (.int .i64 i1)] h).trans (r22 mk0 E p0 i1 h)
def k34x5 : AC := .ret
def k34x4 : AC := .seq (.mask 16) k34x5
def k34x3 : AC := .mask 3
def k34x2 : AC := .seq (.cond (.tmp 27)
   (.seq (.ops false [
      ⟨(some 28), .move (.tmp 1), none, []⟩,
      ⟨(some 4), .move (.tmp 28), none, []⟩]) k34x4)
   (.skip)) k34x3
def k34x11 : AC := .ret
def k34x10 : AC := .seq (.mask 16) k34x11
def k34x9 : AC := .mask 35
def k34x8 : AC := .seq (.cond (.tmp 36)
   (.seq (.ops false [
      ⟨(some 37), .move (.tmp 1), none, []⟩,
      ⟨(some 4), .move (.tmp 37), none, []⟩]) k34x10)
   (.skip)) k34x9
def k34x17 : AC := .ret
def k34x16 : AC := .seq (.mask 16) k34x17
def k34x15 : AC := .mask 35
def k34x14 : AC := .seq (.cond (.tmp 48)
   (.seq (.ops false [
      ⟨(some 49), .move (.tmp 6), none, []⟩,
      ⟨(some 50), .bin .other .mul (.c (.int .i64 2)) (.tmp 49), none, []⟩,
      ⟨(some 4), .move (.tmp 50), none, []⟩]) k34x16)
   (.skip)) k34x15
def k34x13 : AC := .seq (.ops false [
    ⟨(some 48), .move (.tmp 7), none, []⟩]) k34x14
def k34x23 : AC := .ret
def k34x22 : AC := .seq (.mask 16) k34x23
def k34x21 : AC := .seq (.ops false [
    ⟨(some 66), .move (.tmp 1), none, []⟩,
    ⟨(some 4), .move (.tmp 66), none, []⟩]) k34x22
def k34x20 : AC := .mask 35
def k34x19 : AC := .seq (.cond (.tmp 62)
   (.seq (.ops false [
      ⟨(some 63), .move (.tmp 0), none, []⟩,
      ⟨(some 64), .nilCheck (.tmp 63), none, []⟩,
      ⟨(some 65), .fieldAddr 5 (.tmp 64), none, []⟩,
      ⟨none, .store 1 (.tmp 65) (.c (.bool true)), none, []⟩]) k34x21)
   (.skip)) k34x20
def k34x29 : AC := .ret
def k34x28 : AC := .seq (.mask 16) k34x29
def k34x27 : AC := .seq (.ops false [
    ⟨(some 116), .move (.tmp 8), none, []⟩,
    ⟨(some 117), .bin .other .mul (.c (.int .i64 2)) (.tmp 116), none, []⟩,
    ⟨(some 4), .move (.tmp 117), none, []⟩]) k34x28
def k34x26 : AC := .seq (.ops false [
    ⟨(some 109), .move (.tmp 0), none, []⟩,
    ⟨(some 110), .nilCheck (.tmp 109), none, []⟩,
    ⟨(some 111), .fieldAddr 3 (.tmp 110), none, []⟩,
    ⟨(some 112), .load (.cell .map) (.tmp 111), none, []⟩,
    ⟨(some 113), .move (.tmp 1), none, []⟩,
    ⟨(some 114), .bin .other .quo (.tmp 113) (.c (.int .i64 2)), none, []⟩,
    ⟨(some 115), .move (.tmp 8), none, []⟩,
    ⟨none, .mapUpdate (.tmp 112) (.tmp 114) (.tmp 115), none, []⟩]) k34x27
def k34x25 : AC := .seq (.ops false [
    ⟨(some 100), .move (.tmp 0), none, []⟩,
    ⟨(some 101), .nilCheck (.tmp 100), none, []⟩,
    ⟨(some 102), .fieldAddr 1 (.tmp 101), none, []⟩,
    ⟨(some 103), .load (.cell (.int .i64)) (.tmp 102), none, []⟩,
    ⟨(some 104), .move (.tmp 5), none, []⟩,
    ⟨(some 105), .bin .other .add (.tmp 104) (.c (.int .i64 1)), none, []⟩,
    ⟨(some 106), .bin .other .add (.tmp 103) (.tmp 105), none, []⟩,
    ⟨(some 107), .nilCheck (.tmp 100), none, []⟩,
    ⟨(some 108), .fieldAddr 1 (.tmp 107), none, []⟩,
    ⟨none, .store 1 (.tmp 108) (.tmp 106), none, []⟩]) k34x26
def k34x24 : AC := .seq (.ops false [
    ⟨(some 71), .move (.tmp 0), none, []⟩,
    ⟨(some 72), .nilCheck (.tmp 71), none, []⟩,
    ⟨(some 73), .fieldAddr 0 (.tmp 72), none, []⟩,
    ⟨(some 74), .load (.cell .ptr) (.tmp 73), none, []⟩,
    ⟨(some 75), .nilCheck (.tmp 74), none, []⟩,
    ⟨(some 76), .fieldAddr 0 (.tmp 75), none, []⟩,
    ⟨(some 77), .load (.cell .sl) (.tmp 76), none, []⟩,
    ⟨(some 78), .move (.tmp 8), none, []⟩,
    ⟨(some 79), .move (.tmp 8), none, []⟩,
    ⟨(some 80), .move (.tmp 5), none, []⟩,
    ⟨(some 81), .bin .other .add (.tmp 79) (.tmp 80), none, []⟩,
    ⟨(some 82), .bin .other .add (.tmp 81) (.c (.int .i64 1)), none, []⟩,
    ⟨(some 83), .slice 1 (.tmp 77) (some (.tmp 78)) (some (.tmp 82)), none, []⟩,
    ⟨(some 84), .move (.tmp 0), none, []⟩,
    ⟨(some 85), .nilCheck (.tmp 84), none, []⟩,
    ⟨(some 86), .fieldAddr 0 (.tmp 85), none, []⟩,
    ⟨(some 87), .load (.cell .ptr) (.tmp 86), none, []⟩,
    ⟨(some 88), .nilCheck (.tmp 87), none, []⟩,
    ⟨(some 89), .fieldAddr 0 (.tmp 88), none, []⟩,
    ⟨(some 90), .load (.cell .sl) (.tmp 89), none, []⟩,
    ⟨(some 91), .move (.tmp 1), none, []⟩,
    ⟨(some 92), .bin .other .quo (.tmp 91) (.c (.int .i64 2)), none, []⟩,
    ⟨(some 93), .move (.tmp 1), none, []⟩,
    ⟨(some 94), .bin .other .quo (.tmp 93) (.c (.int .i64 2)), none, []⟩,
    ⟨(some 95), .move (.tmp 5), none, []⟩,
    ⟨(some 96), .bin .other .add (.tmp 94) (.tmp 95), none, []⟩,
    ⟨(some 97), .bin .other .add (.tmp 96) (.c (.int .i64 1)), none, []⟩,
    ⟨(some 98), .slice 1 (.tmp 90) (some (.tmp 92)) (some (.tmp 97)), none, []⟩,
    ⟨(some 99), .copy 1 (.tmp 83) (.tmp 98), none, []⟩]) k34x25
def k34x18 : AC := .seq (.ops false [
    ⟨(some 67), .move (.tmp 0), none, []⟩,
    ⟨(some 68), .nilCheck (.tmp 67), none, []⟩,
    ⟨(some 69), .fieldAddr 1 (.tmp 68), none, []⟩,
    ⟨(some 70), .load (.cell (.int .i64)) (.tmp 69), none, []⟩,
    ⟨(some 8), .move (.tmp 70), none, []⟩]) k34x24
def k34x12 : AC := .seq (.seq (.ops false [
    ⟨(some 51), .move (.tmp 0), none, []⟩,
    ⟨(some 52), .nilCheck (.tmp 51), none, []⟩,
    ⟨(some 53), .fieldAddr 1 (.tmp 52), none, []⟩,
    ⟨(some 54), .load (.cell (.int .i64)) (.tmp 53), none, []⟩,
    ⟨(some 55), .move (.tmp 5), none, []⟩,
    ⟨(some 56), .bin .other .add (.tmp 54) (.tmp 55), none, []⟩,
    ⟨(some 57), .bin .other .add (.tmp 56) (.c (.int .i64 1)), none, []⟩,
    ⟨(some 58), .move (.tmp 0), none, []⟩,
    ⟨(some 59), .nilCheck (.tmp 58), none, []⟩,
    ⟨(some 60), .fieldAddr 2 (.tmp 59), none, []⟩,
    ⟨(some 61), .load (.cell (.int .i64)) (.tmp 60), none, []⟩,
    ⟨(some 62), .bin .other .gtr (.tmp 57) (.tmp 61), none, []⟩]) k34x19) k34x18
def k34x7 : AC := .seq (.seq (.ops false [
    ⟨(some 39), .move (.tmp 0), none, []⟩,
    ⟨(some 40), .nilCheck (.tmp 39), none, []⟩,
    ⟨(some 41), .fieldAddr 3 (.tmp 40), none, []⟩,
    ⟨(some 42), .load (.cell .map) (.tmp 41), none, []⟩,
    ⟨(some 43), .move (.tmp 1), none, []⟩,
    ⟨(some 44), .bin .other .quo (.tmp 43) (.c (.int .i64 2)), none, []⟩,
    ⟨(some 45), .lookup (.int .i64 0) (.cell (.int .i64)) true (.tmp 42) (.tmp 44), none, []⟩,
    ⟨(some 38), .move (.tmp 45), none, []⟩,
    ⟨(some 46), .extract (.tmp 38) 0, none, []⟩,
    ⟨(some 47), .extract (.tmp 38) 1, none, []⟩,
    ⟨(some 6), .move (.tmp 46), none, []⟩,
    ⟨(some 7), .move (.tmp 47), none, []⟩]) k34x13) k34x12
def k34x6 : AC := .seq (.seq (.ops false [
    ⟨(some 35), .move (.tmp 5), none, []⟩,
    ⟨(some 36), .bin .other .lss (.tmp 35) (.c (.int .i64 0)), none, []⟩]) k34x8) k34x7
def k34x1 : AC := .seq (.ops false [
    ⟨(some 29), .move (.tmp 0), none, []⟩,
    ⟨(some 30), .nilCheck (.tmp 29), none, []⟩,
    ⟨(some 31), .fieldAddr 0 (.tmp 30), none, []⟩,
    ⟨(some 32), .load (.cell .ptr) (.tmp 31), none, []⟩,
    ⟨(some 33), .move (.tmp 1), none, []⟩,
    ⟨(some 34), .call 30 [(.tmp 32), (.tmp 33)] [(.cell (.int .i64))] (.int .i64 0), none, []⟩,
    ⟨(some 5), .move (.tmp 34), none, []⟩]) k34x6
def k34x0 : AC := .seq (.seq (.ops true [
    ⟨(some 9), .move (.tmp 0), none, []⟩,
    ⟨(some 10), .nilCheck (.tmp 9), none, []⟩,
    ⟨(some 11), .fieldAddr 5 (.tmp 10), none, []⟩,
    ⟨(some 12), .load (.cell .bool) (.tmp 11), none, []⟩,
    ⟨(some 13), .move (.tmp 12), none, []⟩,
    ⟨(some 14), .move (.tmp 0), (some (13, false)), []⟩,
    ⟨(some 15), .nilCheck (.tmp 14), (some (13, false)), []⟩,
    ⟨(some 16), .fieldAddr 4 (.tmp 15), (some (13, false)), []⟩,
    ⟨(some 17), .load (.cell .bool) (.tmp 16), (some (13, false)), []⟩,
    ⟨(some 18), .move (.tmp 17), (some (13, false)), []⟩,
    ⟨(some 19), .move (.tmp 0), (some (18, true)), []⟩,
    ⟨(some 20), .nilCheck (.tmp 19), (some (18, true)), []⟩,
    ⟨(some 21), .fieldAddr 0 (.tmp 20), (some (18, true)), []⟩,
    ⟨(some 22), .load (.cell .ptr) (.tmp 21), (some (18, true)), []⟩,
    ⟨(some 23), .move (.tmp 1), (some (18, true)), []⟩,
    ⟨(some 24), .call 41 [(.tmp 22), (.tmp 23)] [(.cell .bool)] (.bool false), (some (18, true)), []⟩,
    ⟨(some 25), .un .not (.tmp 24), (some (18, true)), []⟩,
    ⟨(some 26), .pick (.tmp 18) (.tmp 25) (.c (.bool false)), (some (13, false)), []⟩,
    ⟨(some 27), .pick (.tmp 13) (.c (.bool true)) (.tmp 26), none, []⟩]) k34x2) k34x1
/-- (*provenance/heap.move).value -/
def c34 : AFn := ⟨118, [.tmp 4],
  .seq (.ops false [
    ⟨(some 4), .move (.c (.int .i64 0)), none, []⟩]) k34x0⟩
theorem r34 (p0 : Option Ad) (i1 : Int) (h : Heap) : runE M C c34 [(.ptr p0), (.int .i64 i1)] h = (
  atP p0 true fun a10 =>
  gB (ld1 h (Ad.add a10 5)) true fun b12 =>
  atP p0 (!b12) fun a15 =>
  atP (some a15) (!b12) fun a16 =>
  atP (some (Ad.add a16 4)) (!b12) fun a17 =>
  gB (ld1 h a17) (!b12) fun b17 =>
  atP p0 (andB (!b12) b17) fun a20 =>
  atP (some a20) (andB (!b12) b17) fun a21 =>
  atP (some (Ad.add a21 0)) (andB (!b12) b17) fun a22 =>
  gP (ld1 h a22) (andB (!b12) b17) fun p22 =>
  (callO (andB (!b12) b17) (C 41 [(.ptr p22), (.int .i64 i1)] h) (.bool false) h).bind fun r24 =>
  gB (some r24.1) (andB (!b12) b17) fun b24 =>
  letK ((if b17 = true then (!b24) else false) : Bool) fun b26 =>
  letK ((if b12 = true then true else b26) : Bool) fun b27 =>
  if b27 = true then
    (
    some ((.int .i64 i1), r24.2)
    )
  else
    (
    atP p0 true fun a30 =>
    gP (ld1 r24.2 (Ad.add a30 0)) true fun p32 =>
    (C 30 [(.ptr p32), (.int .i64 i1)] r24.2).bind fun r34 =>
    gI .i64 (some r34.1) true fun i34 =>
    letK ((decide ((i34 : Int) < 0)) : Bool) fun b36 =>
    if b36 = true then
      (
      some ((.int .i64 i1), r34.2)
      )
    else
      (
      atP p0 true fun a40 =>
      gM (ld1 r34.2 (Ad.add a40 3)) true fun m42 =>
      letK ((IntKind.wrap .i64 (Int.tdiv i1 2)) : Int) fun i44 =>
      gb true (lookM r34.2 m42 (.int .i64 i44)) none fun f45 =>
      gI .i64 (some (Option.getD f45 (.int .i64 0))) true fun i45 =>
      if (Option.isSome f45) = true then
        (
        letK ((IntKind.wrap .i64 (2 * i45)) : Int) fun i50 =>
        some ((.int .i64 i50), r34.2)
        )
      else
        (
        atP p0 true fun a52 =>
        gI .i64 (ld1 r34.2 (Ad.add a52 1)) true fun i54 =>
        letK ((IntKind.wrap .i64 (i54 + i34)) : Int) fun i56 =>
        letK ((IntKind.wrap .i64 (i56 + 1)) : Int) fun i57 =>
        atP p0 true fun a59 =>
        gI .i64 (ld1 r34.2 (Ad.add a59 2)) true fun i61 =>
        letK ((decide ((i61 : Int) < i57)) : Bool) fun b62 =>
        if b62 = true then
          (
          atP p0 true fun a64 =>
          (st1 r34.2 (Ad.add a64 5) (.bool true)).bind fun h_2 =>
          some ((.int .i64 i1), h_2)
          )
        else
          (
          atP p0 true fun a68 =>
          gI .i64 (ld1 r34.2 (Ad.add a68 1)) true fun i70 =>
          atP p0 true fun a72 =>
          gP (ld1 r34.2 (Ad.add a72 0)) true fun p74 =>
          atP p74 true fun a75 =>
          gL (ld1 r34.2 (Ad.add a75 0)) true fun s77 n77 =>
          letK ((IntKind.wrap .i64 (i70 + i34)) : Int) fun i81 =>
          letK ((IntKind.wrap .i64 (i81 + 1)) : Int) fun i82 =>
          chkC (true = true → (0 : Int) ≤ i70 ∧ (i70 : Int) ≤ i82 ∧ hiOk r34.2 s77 n77 1 i82 ∧ esOk r34.2 s77 1) <|
          letK ((Int.toNat i82 - Int.toNat i70) : Nat) fun n83 =>
          letK ((adS s77 (Int.toNat i70 * 1) n83) : SA) fun s83 =>
          atP p0 true fun a85 =>
          gP (ld1 r34.2 (Ad.add a85 0)) true fun p87 =>
          atP p87 true fun a88 =>
          gL (ld1 r34.2 (Ad.add a88 0)) true fun s90 n90 =>
          letK ((IntKind.wrap .i64 (Int.tdiv i1 2)) : Int) fun i92 =>
          letK ((IntKind.wrap .i64 (Int.tdiv i1 2)) : Int) fun i94 =>
          letK ((IntKind.wrap .i64 (i94 + i34)) : Int) fun i96 =>
          letK ((IntKind.wrap .i64 (i96 + 1)) : Int) fun i97 =>
          chkC (true = true → (0 : Int) ≤ i92 ∧ (i92 : Int) ≤ i97 ∧ hiOk r34.2 s90 n90 1 i97 ∧ esOk r34.2 s90 1) <|
          letK ((Int.toNat i97 - Int.toNat i92) : Nat) fun n98 =>
          letK ((adS s90 (Int.toNat i92 * 1) n98) : SA) fun s98 =>
          (ldSl r34.2 s98 (min n98 n83 * 1)).bind fun y99 =>
          (cpyM r34.2 s83 (min n98 n83 * 1) y99).bind fun h_2 =>
          atP p0 true fun a101 =>
          gI .i64 (ld1 h_2 (Ad.add a101 1)) true fun i103 =>
          letK ((IntKind.wrap .i64 (i34 + 1)) : Int) fun i105 =>
          letK ((IntKind.wrap .i64 (i103 + i105)) : Int) fun i106 =>
          atP p0 true fun a107 =>
          (st1 h_2 (Ad.add a107 1) (.int .i64 i106)).bind fun h_3 =>
          atP p0 true fun a110 =>
          gM (ld1 h_3 (Ad.add a110 3)) true fun m112 =>
          letK ((IntKind.wrap .i64 (Int.tdiv i1 2)) : Int) fun i114 =>
          mapK m112 fun qx =>
          (putM h_3 qx (.int .i64 i114) (.int .i64 i70)).bind fun h_4 =>
          letK ((IntKind.wrap .i64 (2 * i70)) : Int) fun i117 =>
          some ((.int .i64 i117), h_4)
          )
        )
      )
    )
  ) := by kernel_rfl
theorem cf34 : cFn Try.prog 34 = some c34 := by kernel_rfl
theorem e34 (p0 : Option Ad) (i1 : Int) (h : Heap) : E 34 [(.ptr p0), (.int .i64 i1)] h = (
  atP p0 true fun a10 =>
  gB (ld1 h (Ad.add a10 5)) true fun b12 =>
  atP p0 (!b12) fun a15 =>
  atP (some a15) (!b12) fun a16 =>
  atP (some (Ad.add a16 4)) (!b12) fun a17 =>
  gB (ld1 h a17) (!b12) fun b17 =>
  atP p0 (andB (!b12) b17) fun a20 =>
  atP (some a20) (andB (!b12) b17) fun a21 =>
  atP (some (Ad.add a21 0)) (andB (!b12) b17) fun a22 =>
  gP (ld1 h a22) (andB (!b12) b17) fun p22 =>
  (callO (andB (!b12) b17) (E 41 [(.ptr p22), (.int .i64 i1)] h) (.bool false) h).bind fun r24 =>
  gB (some r24.1) (andB (!b12) b17) fun b24 =>
  letK ((if b17 = true then (!b24) else false) : Bool) fun b26 =>
  letK ((if b12 = true then true else b26) : Bool) fun b27 =>
  if b27 = true then
    (
    some ((.int .i64 i1), r24.2)
    )
  else
    (
    atP p0 true fun a30 =>
    gP (ld1 r24.2 (Ad.add a30 0)) true fun p32 =>
    (E 30 [(.ptr p32), (.int .i64 i1)] r24.2).bind fun r34 =>
    gI .i64 (some r34.1) true fun i34 =>
    letK ((decide ((i34 : Int) < 0)) : Bool) fun b36 =>
    if b36 = true then
      (
      some ((.int .i64 i1), r34.2)
      )
    else
      (
      atP p0 true fun a40 =>
      gM (ld1 r34.2 (Ad.add a40 3)) true fun m42 =>
      letK ((IntKind.wrap .i64 (Int.tdiv i1 2)) : Int) fun i44 =>
      gb true (lookM r34.2 m42 (.int .i64 i44)) none fun f45 =>
      gI .i64 (some (Option.getD f45 (.int .i64 0))) true fun i45 =>
      if (Option.isSome f45) = true then
        (
        letK ((IntKind.wrap .i64 (2 * i45)) : Int) fun i50 =>
        some ((.int .i64 i50), r34.2)
        )
      else
        (
        atP p0 true fun a52 =>
        gI .i64 (ld1 r34.2 (Ad.add a52 1)) true fun i54 =>
        letK ((IntKind.wrap .i64 (i54 + i34)) : Int) fun i56 =>
        letK ((IntKind.wrap .i64 (i56 + 1)) : Int) fun i57 =>
        atP p0 true fun a59 =>
        gI .i64 (ld1 r34.2 (Ad.add a59 2)) true fun i61 =>
        letK ((decide ((i61 : Int) < i57)) : Bool) fun b62 =>
        if b62 = true then
          (
          atP p0 true fun a64 =>
          (st1 r34.2 (Ad.add a64 5) (.bool true)).bind fun h_2 =>
          some ((.int .i64 i1), h_2)
          )
        else
          (
          atP p0 true fun a68 =>
          gI .i64 (ld1 r34.2 (Ad.add a68 1)) true fun i70 =>
          atP p0 true fun a72 =>
          gP (ld1 r34.2 (Ad.add a72 0)) true fun p74 =>
          atP p74 true fun a75 =>
          gL (ld1 r34.2 (Ad.add a75 0)) true fun s77 n77 =>
          letK ((IntKind.wrap .i64 (i70 + i34)) : Int) fun i81 =>
          letK ((IntKind.wrap .i64 (i81 + 1)) : Int) fun i82 =>
          chkC (true = true → (0 : Int) ≤ i70 ∧ (i70 : Int) ≤ i82 ∧ hiOk r34.2 s77 n77 1 i82 ∧ esOk r34.2 s77 1) <|
          letK ((Int.toNat i82 - Int.toNat i70) : Nat) fun n83 =>
          letK ((adS s77 (Int.toNat i70 * 1) n83) : SA) fun s83 =>
          atP p0 true fun a85 =>
          gP (ld1 r34.2 (Ad.add a85 0)) true fun p87 =>
          atP p87 true fun a88 =>
          gL (ld1 r34.2 (Ad.add a88 0)) true fun s90 n90 =>
          letK ((IntKind.wrap .i64 (Int.tdiv i1 2)) : Int) fun i92 =>
          letK ((IntKind.wrap .i64 (Int.tdiv i1 2)) : Int) fun i94 =>
          letK ((IntKind.wrap .i64 (i94 + i34)) : Int) fun i96 =>
          letK ((IntKind.wrap .i64 (i96 + 1)) : Int) fun i97 =>
          chkC (true = true → (0 : Int) ≤ i92 ∧ (i92 : Int) ≤ i97 ∧ hiOk r34.2 s90 n90 1 i97 ∧ esOk r34.2 s90 1) <|
          letK ((Int.toNat i97 - Int.toNat i92) : Nat) fun n98 =>
          letK ((adS s90 (Int.toNat i92 * 1) n98) : SA) fun s98 =>
          (ldSl r34.2 s98 (min n98 n83 * 1)).bind fun y99 =>
          (cpyM r34.2 s83 (min n98 n83 * 1) y99).bind fun h_2 =>
          atP p0 true fun a101 =>
          gI .i64 (ld1 h_2 (Ad.add a101 1)) true fun i103 =>
          letK ((IntKind.wrap .i64 (i34 + 1)) : Int) fun i105 =>
          letK ((IntKind.wrap .i64 (i103 + i105)) : Int) fun i106 =>
          atP p0 true fun a107 =>
          (st1 h_2 (Ad.add a107 1) (.int .i64 i106)).bind fun h_3 =>
          atP p0 true fun a110 =>
          gM (ld1 h_3 (Ad.add a110 3)) true fun m112 =>
          letK ((IntKind.wrap .i64 (Int.tdiv i1 2)) : Int) fun i114 =>
          mapK m112 fun qx =>
          (putM h_3 qx (.int .i64 i114) (.int .i64 i70)).bind fun h_4 =>
          letK ((IntKind.wrap .i64 (2 * i70)) : Int) fun i117 =>
          some ((.int .i64 i117), h_4)
          )
        )
      )
    )
  ) := (EV_eq (P := Try.prog) (T := T0) rfl cf34 [(.ptr p0), (.int .i64 i1)] h).trans (r34 mk0 E p0 i1 h)
def k35x5 : AC := .exit 0
def k35x4 : AC := .mask 3
def k35x3 : AC := .seq (.cond (.tmp 20)
   (.skip)
   (.seq (.mask 0) k35x5)) k35x4
def k35x15 : AC := .exit 2
def k35x14 : AC := .mask 163
def k35x13 : AC := .seq (.cond (.tmp 42)
   (.skip)
   (.seq (.mask 35) k35x15)) k35x14
def k35x17 : AC := .mask 163
def k35x16 : AC := .ops false [
    ⟨(some 43), .move (.tmp 7), none, []⟩,
    ⟨(some 44), .bin .other .add (.tmp 43) (.c (.int .i64 1)), none, []⟩,
    ⟨(some 7), .move (.tmp 44), none, []⟩]
def k35x12 : AC := .seq (.seq (.block 3 (.ops false [
     ⟨(some 45), .move (.tmp 0), none, []⟩,
     ⟨(some 46), .nilCheck (.tmp 45), none, []⟩,
     ⟨(some 47), .fieldAddr 0 (.tmp 46), none, []⟩,
     ⟨(some 48), .load (.cell .ptr) (.tmp 47), none, []⟩,
     ⟨(some 49), .nilCheck (.tmp 48), none, []⟩,
     ⟨(some 50), .fieldAddr 0 (.tmp 49), none, []⟩,
     ⟨(some 51), .load (.cell .sl) (.tmp 50), none, []⟩,
     ⟨(some 52), .move (.tmp 7), none, []⟩,
     ⟨(some 53), .move (.tmp 0), none, []⟩,
     ⟨(some 54), .move (.tmp 0), none, []⟩,
     ⟨(some 55), .nilCheck (.tmp 54), none, []⟩,
     ⟨(some 56), .fieldAddr 0 (.tmp 55), none, []⟩,
     ⟨(some 57), .load (.cell .ptr) (.tmp 56), none, []⟩,
     ⟨(some 58), .nilCheck (.tmp 57), none, []⟩,
     ⟨(some 59), .fieldAddr 0 (.tmp 58), none, []⟩,
     ⟨(some 60), .load (.cell .sl) (.tmp 59), none, []⟩,
     ⟨(some 61), .move (.tmp 7), none, []⟩,
     ⟨(some 62), .indexAddr 1 (.tmp 60) (.tmp 61), none, []⟩,
     ⟨(some 63), .load (.cell (.int .i64)) (.tmp 62), none, []⟩,
     ⟨(some 64), .call 34 [(.tmp 53), (.tmp 63)] [(.cell (.int .i64))] (.int .i64 0), none, [.load 1 47 none, .load 1 50 none]⟩,
     ⟨(some 65), .indexAddr 1 (.tmp 51) (.tmp 52), none, []⟩,
     ⟨none, .store 1 (.tmp 65) (.tmp 64), none, []⟩])) k35x17) k35x16
def k35x11 : AC := .seq (.seq (.ops false [
    ⟨(some 38), .move (.tmp 7), none, []⟩,
    ⟨(some 39), .move (.tmp 1), none, []⟩,
    ⟨(some 40), .move (.tmp 5), none, []⟩,
    ⟨(some 41), .bin .other .add (.tmp 39) (.tmp 40), none, []⟩,
    ⟨(some 42), .bin .other .leq (.tmp 38) (.tmp 41), none, []⟩]) k35x13) k35x12
def k35x10 : AC := .mask 35
def k35x9 : AC := .seq (.block 2 (.loop 163 35 k35x11)) k35x10
def k35x8 : AC := .ops false [
    ⟨(some 66), .move (.tmp 1), none, []⟩,
    ⟨(some 67), .move (.tmp 5), none, []⟩,
    ⟨(some 68), .bin .other .add (.tmp 67) (.c (.int .i64 1)), none, []⟩,
    ⟨(some 69), .bin .other .add (.tmp 66) (.tmp 68), none, []⟩,
    ⟨(some 1), .move (.tmp 69), none, []⟩]
def k35x7 : AC := .seq (.seq (.ops false [
    ⟨(some 36), .move (.tmp 1), none, []⟩,
    ⟨(some 37), .bin .other .add (.tmp 36) (.c (.int .i64 1)), none, []⟩,
    ⟨(some 7), .move (.tmp 37), none, []⟩]) k35x9) k35x8
def k35x6 : AC := .mask 3
def k35x2 : AC := .seq (.block 1 (.seq (.ops false [
     ⟨(some 22), .move (.tmp 0), none, []⟩,
     ⟨(some 23), .nilCheck (.tmp 22), none, []⟩,
     ⟨(some 24), .fieldAddr 0 (.tmp 23), none, []⟩,
     ⟨(some 25), .load (.cell .ptr) (.tmp 24), none, []⟩,
     ⟨(some 26), .nilCheck (.tmp 25), none, []⟩,
     ⟨(some 27), .fieldAddr 0 (.tmp 26), none, []⟩,
     ⟨(some 28), .load (.cell .sl) (.tmp 27), none, []⟩,
     ⟨(some 29), .move (.tmp 1), none, []⟩,
     ⟨(some 30), .indexAddr 1 (.tmp 28) (.tmp 29), none, []⟩,
     ⟨(some 31), .load (.cell (.int .i64)) (.tmp 30), none, []⟩,
     ⟨(some 32), .call 31 [(.tmp 31)] [(.cell (.int .i64)), (.cell (.int .i64)), (.cell .bool)] .opq, none, []⟩,
     ⟨(some 21), .move (.tmp 32), none, []⟩,
     ⟨(some 33), .extract (.tmp 21) 0, none, []⟩,
     ⟨(some 34), .extract (.tmp 21) 1, none, []⟩,
     ⟨(some 35), .extract (.tmp 21) 2, none, []⟩,
     ⟨(some 4), .move (.tmp 33), none, []⟩,
     ⟨(some 5), .move (.tmp 34), none, []⟩,
     ⟨(some 6), .move (.tmp 35), none, []⟩]) k35x7)) k35x6
def k35x1 : AC := .seq (.seq (.ops true [
    ⟨(some 8), .move (.tmp 1), none, []⟩,
    ⟨(some 9), .move (.tmp 0), none, []⟩,
    ⟨(some 10), .nilCheck (.tmp 9), none, []⟩,
    ⟨(some 11), .fieldAddr 1 (.tmp 10), none, []⟩,
    ⟨(some 12), .load (.cell (.int .i64)) (.tmp 11), none, []⟩,
    ⟨(some 13), .bin .other .lss (.tmp 8) (.tmp 12), none, []⟩,
    ⟨(some 14), .move (.tmp 13), none, []⟩,
    ⟨(some 15), .move (.tmp 0), (some (14, true)), []⟩,
    ⟨(some 16), .nilCheck (.tmp 15), (some (14, true)), []⟩,
    ⟨(some 17), .fieldAddr 5 (.tmp 16), (some (14, true)), []⟩,
    ⟨(some 18), .load (.cell .bool) (.tmp 17), (some (14, true)), []⟩,
    ⟨(some 19), .un .not (.tmp 18), (some (14, true)), []⟩,
    ⟨(some 20), .pick (.tmp 14) (.tmp 19) (.c (.bool false)), none, []⟩]) k35x3) k35x2
def k35x0 : AC := .mask 0
/-- (*provenance/heap.move).scan -/
def c35 : AFn := ⟨70, [],
  .seq (.block 0 (.loop 3 0 k35x1)) k35x0⟩
def S35xe0 (h : Heap) : St := ⟨(rep 70 []), h⟩
def S35xe2 (p0 : Option Ad) (i1 : Int) (i5 : Int) (h : Heap) : St := ⟨(.g [] true (.ptr p0) :: (.g [] true (.int .i64 i1) :: (rep 3 (.g [] true (.int .i64 i5) :: (rep 64 []))))), h⟩
noncomputable def Q35x1 (M : Mk) (C : Cal) : Kont (AV × Heap) := (blockQ 0 (seqQ (evalE M C k35x0) (endQ [])))
noncomputable def L35x1 (p0 : Option Ad) (i1 : Int) (h : Heap) (Q : Kont R) : Option R := loopE (evalE M C k35x1) 3 0 ⟨(.g [] true (.ptr p0) :: (.g [] true (.int .i64 i1) :: (rep 68 []))), h⟩ Q
noncomputable def Q35x11 (M : Mk) (C : Cal) (Q : Kont R) : Kont R := (blockQ 2 (seqQ (evalE M C k35x10) (seqQ (evalE M C k35x8) (blockQ 1 (seqQ (evalE M C k35x6) (roundQ M C k35x1 3 0 Q))))))
noncomputable def L35x11 (p0 : Option Ad) (i1 : Int) (i5 : Int) (i7 : Int) (h : Heap) (Q : Kont R) : Option R := loopE (evalE M C k35x11) 163 35 ⟨(.g [] true (.ptr p0) :: (.g [] true (.int .i64 i1) :: (rep 3 (.g [] true (.int .i64 i5) :: (.any :: (.g [] true (.int .i64 i7) :: (rep 62 []))))))), h⟩ Q
theorem r35 (p0 : Option Ad) (i1 : Int) (h : Heap) : runE M C c35 [(.ptr p0), (.int .i64 i1)] h = (
  L35x1 M C p0 i1 h (Q35x1 M C)
  ) := by kernel_rfl
theorem cf35 : cFn Try.prog 35 = some c35 := by kernel_rfl
theorem e35 (p0 : Option Ad) (i1 : Int) (h : Heap) : E 35 [(.ptr p0), (.int .i64 i1)] h = (
  L35x1 mk0 E p0 i1 h (Q35x1 mk0 E)
  ) := (EV_eq (P := Try.prog) (T := T0) rfl cf35 [(.ptr p0), (.int .i64 i1)] h).trans (r35 mk0 E p0 i1 h)
theorem L35x1xaux (p0 : Option Ad) (i1 : Int) (h : Heap) (Q : Kont R) : (restrF 3 ⟨(.g [] true (.ptr p0) :: (.g [] true (.int .i64 i1) :: (rep 68 []))), h⟩ fun σ => evalE M C k35x1 σ (roundQ M C k35x1 3 0 Q)) = (
  atP p0 true fun a10 =>
  gI .i64 (ld1 h (Ad.add a10 1)) true fun i12 =>
  letK ((decide ((i1 : Int) < i12)) : Bool) fun b13 =>
  atP p0 b13 fun a16 =>
  atP (some a16) b13 fun a17 =>
  atP (some (Ad.add a17 5)) b13 fun a18 =>
  gB (ld1 h a18) b13 fun b18 =>
  letK ((if b13 = true then (!b18) else false) : Bool) fun b20 =>
  if b20 = true then
    (
    atP p0 true fun a23 =>
    gP (ld1 h (Ad.add a23 0)) true fun p25 =>
    atP p25 true fun a26 =>
    gL (ld1 h (Ad.add a26 0)) true fun s28 n28 =>
    chk (true = true → (0 : Int) ≤ i1 ∧ (i1 : Int) < ((n28 : Nat) : Int)) <|
    atP (adP s28) true fun a30 =>
    gI .i64 (ld1 h (Ad.add a30 (Int.toNat i1 * 1))) true fun i31 =>
    (C 31 [(.int .i64 i31)] h).bind fun r32 =>
    gT 3 r32.1 true fun u32 =>
    gI .i64 (some (List.getD u32 0 .opq)) true fun i32x0 =>
    gI .i64 (some (List.getD u32 1 .opq)) true fun i32x1 =>
    gB (some (List.getD u32 2 .opq)) true fun b32x2 =>
    letK ((IntKind.wrap .i64 (i1 + 1)) : Int) fun i37 =>
    L35x11 M C p0 i1 i32x1 i37 r32.2 (Q35x11 M C Q)
    )
  else
    (
    Q (.exit 0) (S35xe0 h)
    )
  ) := by kernel_rfl
theorem L35x1xeq (p0 : Option Ad) (i1 : Int) (h : Heap) (Q : Kont R) : L35x1 mk0 C p0 i1 h Q = (
  atP p0 true fun a10 =>
  gI .i64 (ld1 h (Ad.add a10 1)) true fun i12 =>
  letK ((decide ((i1 : Int) < i12)) : Bool) fun b13 =>
  atP p0 b13 fun a16 =>
  atP (some a16) b13 fun a17 =>
  atP (some (Ad.add a17 5)) b13 fun a18 =>
  gB (ld1 h a18) b13 fun b18 =>
  letK ((if b13 = true then (!b18) else false) : Bool) fun b20 =>
  if b20 = true then
    (
    atP p0 true fun a23 =>
    gP (ld1 h (Ad.add a23 0)) true fun p25 =>
    atP p25 true fun a26 =>
    gL (ld1 h (Ad.add a26 0)) true fun s28 n28 =>
    chk (true = true → (0 : Int) ≤ i1 ∧ (i1 : Int) < ((n28 : Nat) : Int)) <|
    atP (adP s28) true fun a30 =>
    gI .i64 (ld1 h (Ad.add a30 (Int.toNat i1 * 1))) true fun i31 =>
    (C 31 [(.int .i64 i31)] h).bind fun r32 =>
    gT 3 r32.1 true fun u32 =>
    gI .i64 (some (List.getD u32 0 .opq)) true fun i32x0 =>
    gI .i64 (some (List.getD u32 1 .opq)) true fun i32x1 =>
    gB (some (List.getD u32 2 .opq)) true fun b32x2 =>
    letK ((IntKind.wrap .i64 (i1 + 1)) : Int) fun i37 =>
    L35x11 mk0 C p0 i1 i32x1 i37 r32.2 (Q35x11 mk0 C Q)
    )
  else
    (
    Q (.exit 0) (S35xe0 h)
    )
  ) := loop_eqn C k35x1 3 0 (.g [] true (.ptr p0) :: (.g [] true (.int .i64 i1) :: (rep 68 []))) h Q (by kernel_rfl) (L35x1xaux mk0 C p0 i1 h Q)
theorem L35x11xaux (p0 : Option Ad) (i1 : Int) (i5 : Int) (i7 : Int) (h : Heap) (Q : Kont R) : (restrF 163 ⟨(.g [] true (.ptr p0) :: (.g [] true (.int .i64 i1) :: (rep 3 (.g [] true (.int .i64 i5) :: (.any :: (.g [] true (.int .i64 i7) :: (rep 62 []))))))), h⟩ fun σ => evalE M C k35x11 σ (roundQ M C k35x11 163 35 Q)) = (
  letK ((IntKind.wrap .i64 (i1 + i5)) : Int) fun i41 =>
  letK ((decide ((i7 : Int) ≤ i41)) : Bool) fun b42 =>
  if b42 = true then
    (
    atP p0 true fun a46 =>
    gP (ld1 h (Ad.add a46 0)) true fun p48 =>
    atP p48 true fun a49 =>
    gL (ld1 h (Ad.add a49 0)) true fun s51 n51 =>
    atP p0 true fun a55 =>
    gP (ld1 h (Ad.add a55 0)) true fun p57 =>
    atP p57 true fun a58 =>
    gL (ld1 h (Ad.add a58 0)) true fun s60 n60 =>
    chk (true = true → (0 : Int) ≤ i7 ∧ (i7 : Int) < ((n60 : Nat) : Int)) <|
    atP (adP s60) true fun a62 =>
    gI .i64 (ld1 h (Ad.add a62 (Int.toNat i7 * 1))) true fun i63 =>
    (C 34 [(.ptr p0), (.int .i64 i63)] h).bind fun r64 =>
    gI .i64 (some r64.1) true fun i64 =>
    chkC (true = true → ldN r64.2 (Ad.add a46 0) 1 = ldN h (Ad.add a46 0) 1) <|
    chkC (true = true → ldN r64.2 (Ad.add a49 0) 1 = ldN h (Ad.add a49 0) 1) <|
    chk (true = true → (0 : Int) ≤ i7 ∧ (i7 : Int) < ((n51 : Nat) : Int)) <|
    atP (adP s51) true fun a65 =>
    (st1 r64.2 (Ad.add a65 (Int.toNat i7 * 1)) (.int .i64 i64)).bind fun h_2 =>
    letK ((IntKind.wrap .i64 (i7 + 1)) : Int) fun i44 =>
    L35x11 M C p0 i1 i5 i44 h_2 Q
    )
  else
    (
    Q (.exit 2) (S35xe2 p0 i1 i5 h)
    )
  ) := by kernel_rfl
theorem L35x11xeq (p0 : Option Ad) (i1 : Int) (i5 : Int) (i7 : Int) (h : Heap) (Q : Kont R) : L35x11 mk0 C p0 i1 i5 i7 h Q = (
  letK ((IntKind.wrap .i64 (i1 + i5)) : Int) fun i41 =>
  letK ((decide ((i7 : Int) ≤ i41)) : Bool) fun b42 =>
  if b42 = true then
    (
    atP p0 true fun a46 =>
    gP (ld1 h (Ad.add a46 0)) true fun p48 =>
    atP p48 true fun a49 =>
    gL (ld1 h (Ad.add a49 0)) true fun s51 n51 =>
    atP p0 true fun a55 =>
    gP (ld1 h (Ad.add a55 0)) true fun p57 =>
    atP p57 true fun a58 =>
    gL (ld1 h (Ad.add a58 0)) true fun s60 n60 =>
    chk (true = true → (0 : Int) ≤ i7 ∧ (i7 : Int) < ((n60 : Nat) : Int)) <|
    atP (adP s60) true fun a62 =>
    gI .i64 (ld1 h (Ad.add a62 (Int.toNat i7 * 1))) true fun i63 =>
    (C 34 [(.ptr p0), (.int .i64 i63)] h).bind fun r64 =>
    gI .i64 (some r64.1) true fun i64 =>
    chkC (true = true → ldN r64.2 (Ad.add a46 0) 1 = ldN h (Ad.add a46 0) 1) <|
    chkC (true = true → ldN r64.2 (Ad.add a49 0) 1 = ldN h (Ad.add a49 0) 1) <|
    chk (true = true → (0 : Int) ≤ i7 ∧ (i7 : Int) < ((n51 : Nat) : Int)) <|
    atP (adP s51) true fun a65 =>
    (st1 r64.2 (Ad.add a65 (Int.toNat i7 * 1)) (.int .i64 i64)).bind fun h_2 =>
    letK ((IntKind.wrap .i64 (i7 + 1)) : Int) fun i44 =>
    L35x11 mk0 C p0 i1 i5 i44 h_2 Q
    )
  else
    (
    Q (.exit 2) (S35xe2 p0 i1 i5 h)
    )
  ) := loop_eqn C k35x11 163 35 (.g [] true (.ptr p0) :: (.g [] true (.int .i64 i1) :: (rep 3 (.g [] true (.int .i64 i5) :: (.any :: (.g [] true (.int .i64 i7) :: (rep 62 []))))))) h Q (by kernel_rfl) (L35x11xaux mk0 C p0 i1 i5 i7 h Q)
theorem X35x1xe0 (M : Mk) (C : Cal) (h : Heap) : Q35x1 M C (.exit 0) (S35xe0 h) = (
  some (.tup [], h)
  ) := by kernel_rfl
theorem X35x11xe2 (M : Mk) (C : Cal) (p0 : Option Ad) (i1 : Int) (i5 : Int) (h : Heap) (Q : Kont R) : Q35x11 M C Q (.exit 2) (S35xe2 p0 i1 i5 h) = (
  letK ((IntKind.wrap .i64 (i5 + 1)) : Int) fun i68 =>
  letK ((IntKind.wrap .i64 (i1 + i68)) : Int) fun i69 =>
  L35x1 M C p0 i69 h Q
  ) := by kernel_rfl
def k20x5 : AC := .ret
def k20x4 : AC := .seq (.mask 48) k20x5
def k20x3 : AC := .mask 3
def k20x2 : AC := .seq (.cond (.tmp 15)
   (.seq (.ops false [
      ⟨(some 4), .move (.c (.sl .nil 0)), none, []⟩,
      ⟨(some 5), .move (.c (.int .i64 2)), none, []⟩]) k20x4)
   (.skip)) k20x3
def k20x10 : AC := .ret
def k20x9 : AC := .seq (.mask 48) k20x10
def k20x8 : AC := .mask 3
def k20x7 : AC := .seq (.cond (.tmp 35)
   (.seq (.ops false [
      ⟨(some 4), .move (.c (.sl .nil 0)), none, []⟩,
      ⟨(some 5), .move (.c (.int .i64 16)), none, []⟩]) k20x9)
   (.skip)) k20x8
def k20x21 : AC := .exit 0
def k20x20 : AC := .mask 8070450532247929281
def k20x24 : AC := .ops false [
    ⟨(some 67), .move (.tmp 8), none, []⟩,
    ⟨(some 68), .move (.tmp 9), none, []⟩,
    ⟨(some 69), .move (.tmp 6), none, []⟩,
    ⟨(some 70), .move (.tmp 10), none, []⟩,
    ⟨(some 71), .call 34 [(.tmp 69), (.tmp 70)] [(.cell (.int .i64))] (.int .i64 0), none, []⟩,
    ⟨(some 72), .indexAddr 1 (.tmp 67) (.tmp 68), none, []⟩,
    ⟨none, .store 1 (.tmp 72) (.tmp 71), none, []⟩]
def k20x23 : AC := .mask 8070450532247929281
def k20x22 : AC := .ops false [
    ⟨(some 73), .bin .other .add (.tmp 62) (.c (.int .i64 1)), none, []⟩,
    ⟨(some 62), .move (.tmp 73), none, []⟩]
def k20x19 : AC := .seq (.seq (.block 1 (.seq (.ops false [
     ⟨(some 64), .move (.tmp 62), none, []⟩,
     ⟨(some 65), .indexAddr 1 (.tmp 60) (.tmp 62), none, []⟩,
     ⟨(some 66), .load (.cell (.int .i64)) (.tmp 65), none, []⟩,
     ⟨(some 9), .move (.tmp 64), none, []⟩,
     ⟨(some 10), .move (.tmp 66), none, []⟩]) k20x24)) k20x23) k20x22
def k20x18 : AC := .seq (.seq (.cond (.tmp 63)
   (.skip)
   (.seq (.mask 449) k20x21)) k20x20) k20x19
def k20x17 : AC := .seq (.ops false [
    ⟨(some 63), .bin .other .lss (.tmp 62) (.tmp 61), none, []⟩]) k20x18
def k20x16 : AC := .mask 449
def k20x15 : AC := .seq (.block 0 (.loop 8070450532247929281 449 k20x17)) k20x16
def k20x32 : AC := .exit 2
def k20x31 : AC := .mask 1057810092162800527868353
def k20x35 : AC := .ops false [
    ⟨(some 83), .move (.tmp 0), none, []⟩,
    ⟨(some 84), .nilCheck (.tmp 83), none, []⟩,
    ⟨(some 85), .fieldAddr 0 (.tmp 84), none, []⟩,
    ⟨(some 86), .load (.cell .sl) (.tmp 85), none, []⟩,
    ⟨(some 87), .move (.tmp 12), none, []⟩,
    ⟨(some 88), .move (.tmp 6), none, []⟩,
    ⟨(some 89), .move (.tmp 0), none, []⟩,
    ⟨(some 90), .nilCheck (.tmp 89), none, []⟩,
    ⟨(some 91), .fieldAddr 0 (.tmp 90), none, []⟩,
    ⟨(some 92), .load (.cell .sl) (.tmp 91), none, []⟩,
    ⟨(some 93), .move (.tmp 12), none, []⟩,
    ⟨(some 94), .indexAddr 1 (.tmp 92) (.tmp 93), none, []⟩,
    ⟨(some 95), .load (.cell (.int .i64)) (.tmp 94), none, []⟩,
    ⟨(some 96), .call 34 [(.tmp 88), (.tmp 95)] [(.cell (.int .i64))] (.int .i64 0), none, [.load 1 85 none]⟩,
    ⟨(some 97), .indexAddr 1 (.tmp 86) (.tmp 87), none, []⟩,
    ⟨none, .store 1 (.tmp 97) (.tmp 96), none, []⟩]
def k20x34 : AC := .mask 1057810092162800527868353
def k20x33 : AC := .ops false [
    ⟨(some 98), .bin .other .add (.tmp 79) (.c (.int .i64 1)), none, []⟩,
    ⟨(some 79), .move (.tmp 98), none, []⟩]
def k20x30 : AC := .seq (.seq (.block 3 (.seq (.ops false [
     ⟨(some 81), .indexAddr 1 (.tmp 77) (.tmp 79), none, []⟩,
     ⟨(some 82), .load (.cell (.int .i64)) (.tmp 81), none, []⟩,
     ⟨(some 12), .move (.tmp 82), none, []⟩]) k20x35)) k20x34) k20x33
def k20x29 : AC := .seq (.seq (.cond (.tmp 80)
   (.skip)
   (.seq (.mask 449) k20x32)) k20x31) k20x30
def k20x28 : AC := .seq (.ops false [
    ⟨(some 80), .bin .other .lss (.tmp 79) (.tmp 78), none, []⟩]) k20x29
def k20x27 : AC := .mask 449
def k20x26 : AC := .seq (.block 2 (.loop 1057810092162800527868353 449 k20x28)) k20x27
def k20x39 : AC := .ret
def k20x38 : AC := .seq (.mask 48) k20x39
def k20x37 : AC := .seq (.ops false [
    ⟨(some 115), .move (.tmp 8), none, []⟩,
    ⟨(some 4), .move (.tmp 115), none, []⟩,
    ⟨(some 5), .move (.c (.int .i64 0)), none, []⟩]) k20x38
def k20x36 : AC := .seq (.ops false [
    ⟨(some 102), .move (.tmp 0), none, []⟩,
    ⟨(some 103), .move (.tmp 0), none, []⟩,
    ⟨(some 104), .move (.tmp 0), none, []⟩,
    ⟨(some 105), .move (.tmp 6), none, []⟩,
    ⟨(some 106), .nilCheck (.tmp 105), none, []⟩,
    ⟨(some 107), .fieldAddr 1 (.tmp 106), none, []⟩,
    ⟨(some 108), .load (.cell (.int .i64)) (.tmp 107), none, []⟩,
    ⟨(some 109), .nilCheck (.tmp 102), none, []⟩,
    ⟨(some 110), .fieldAddr 6 (.tmp 109), none, []⟩,
    ⟨none, .store 1 (.tmp 110) (.tmp 108), none, []⟩,
    ⟨(some 111), .nilCheck (.tmp 103), none, []⟩,
    ⟨(some 112), .fieldAddr 3 (.tmp 111), none, []⟩,
    ⟨none, .store 1 (.tmp 112) (.c (.int .i64 1)), none, []⟩,
    ⟨(some 113), .nilCheck (.tmp 104), none, []⟩,
    ⟨(some 114), .fieldAddr 7 (.tmp 113), none, []⟩,
    ⟨none, .store 1 (.tmp 114) (.c (.sl .nil 0)), none, []⟩]) k20x37
def k20x25 : AC := .seq (.ops false [
    ⟨(some 99), .move (.tmp 6), none, []⟩,
    ⟨(some 100), .move (.tmp 7), none, []⟩,
    ⟨(some 101), .call 35 [(.tmp 99), (.tmp 100)] [] .opq, none, []⟩]) k20x36
def k20x14 : AC := .seq (.seq (.ops false [
    ⟨(some 74), .move (.tmp 0), none, []⟩,
    ⟨(some 75), .nilCheck (.tmp 74), none, []⟩,
    ⟨(some 76), .fieldAddr 7 (.tmp 75), none, []⟩,
    ⟨(some 77), .load (.cell .sl) (.tmp 76), none, []⟩,
    ⟨(some 78), .lenSl (.tmp 77), none, []⟩,
    ⟨(some 79), .move (.c (.int .i64 0)), none, []⟩]) k20x26) k20x25
def k20x13 : AC := .seq (.seq (.ops false [
    ⟨(some 60), .move (.tmp 1), none, []⟩,
    ⟨(some 61), .lenSl (.tmp 60), none, []⟩,
    ⟨(some 62), .move (.c (.int .i64 0)), none, []⟩]) k20x15) k20x14
def k20x12 : AC := .seq (.ops false [
    ⟨(some 57), .move (.tmp 1), none, []⟩,
    ⟨(some 58), .lenSl (.tmp 57), none, []⟩,
    ⟨(some 59), .makeSl [(.int .i64 0)] 8 (.tmp 58) (.tmp 58), none, []⟩,
    ⟨(some 8), .move (.tmp 59), none, []⟩]) k20x13
def k20x11 : AC := .seq (.ops false [
    ⟨(some 53), .move (.tmp 6), none, []⟩,
    ⟨(some 54), .nilCheck (.tmp 53), none, []⟩,
    ⟨(some 55), .fieldAddr 1 (.tmp 54), none, []⟩,
    ⟨(some 56), .load (.cell (.int .i64)) (.tmp 55), none, []⟩,
    ⟨(some 7), .move (.tmp 56), none, []⟩]) k20x12
def k20x6 : AC := .seq (.ops false [
    ⟨(some 36), .move (.tmp 0), none, []⟩,
    ⟨(some 37), .move (.tmp 0), none, []⟩,
    ⟨(some 38), .nilCheck (.tmp 37), none, []⟩,
    ⟨(some 39), .fieldAddr 6 (.tmp 38), none, []⟩,
    ⟨(some 40), .load (.cell (.int .i64)) (.tmp 39), none, []⟩,
    ⟨(some 41), .move (.tmp 0), none, []⟩,
    ⟨(some 42), .nilCheck (.tmp 41), none, []⟩,
    ⟨(some 43), .fieldAddr 5 (.tmp 42), none, []⟩,
    ⟨(some 44), .load (.cell (.int .i64)) (.tmp 43), none, []⟩,
    ⟨(some 45), .move (.tmp 0), none, []⟩,
    ⟨(some 46), .nilCheck (.tmp 45), none, []⟩,
    ⟨(some 47), .fieldAddr 4 (.tmp 46), none, []⟩,
    ⟨(some 48), .load (.cell (.int .i64)) (.tmp 47), none, []⟩,
    ⟨(some 49), .bin .other .add (.tmp 44) (.tmp 48), none, []⟩,
    ⟨(some 50), .makeMap, none, []⟩,
    ⟨(some 51), .build [(.ptr none), (.int .i64 0), (.int .i64 0), (.map none), (.bool false), (.bool false)] [(0, 1, (.tmp 36)), (1, 1, (.tmp 40)), (2, 1, (.tmp 49)), (3, 1, (.tmp 50)), (4, 1, (.c (.bool true)))], none, []⟩,
    ⟨(some 52), .boxH (.tmp 51), none, []⟩,
    ⟨(some 6), .move (.tmp 52), none, []⟩]) k20x11
def k20x1 : AC := .seq (.seq (.ops false [
    ⟨(some 16), .move (.tmp 0), none, []⟩,
    ⟨(some 17), .nilCheck (.tmp 16), none, []⟩,
    ⟨(some 18), .fieldAddr 6 (.tmp 17), none, []⟩,
    ⟨(some 19), .load (.cell (.int .i64)) (.tmp 18), none, []⟩,
    ⟨(some 20), .move (.tmp 0), none, []⟩,
    ⟨(some 21), .nilCheck (.tmp 20), none, []⟩,
    ⟨(some 22), .fieldAddr 3 (.tmp 21), none, []⟩,
    ⟨(some 23), .load (.cell (.int .i64)) (.tmp 22), none, []⟩,
    ⟨(some 24), .bin .other .add (.tmp 19) (.tmp 23), none, []⟩,
    ⟨(some 25), .bin .other .sub (.tmp 24) (.c (.int .i64 1)), none, []⟩,
    ⟨(some 26), .move (.tmp 0), none, []⟩,
    ⟨(some 27), .nilCheck (.tmp 26), none, []⟩,
    ⟨(some 28), .fieldAddr 5 (.tmp 27), none, []⟩,
    ⟨(some 29), .load (.cell (.int .i64)) (.tmp 28), none, []⟩,
    ⟨(some 30), .move (.tmp 0), none, []⟩,
    ⟨(some 31), .nilCheck (.tmp 30), none, []⟩,
    ⟨(some 32), .fieldAddr 4 (.tmp 31), none, []⟩,
    ⟨(some 33), .load (.cell (.int .i64)) (.tmp 32), none, []⟩,
    ⟨(some 34), .bin .other .add (.tmp 29) (.tmp 33), none, []⟩,
    ⟨(some 35), .bin .other .gtr (.tmp 25) (.tmp 34), none, []⟩]) k20x7) k20x6
def k20x0 : AC := .seq (.seq (.ops false [
    ⟨(some 13), .move (.tmp 1), none, []⟩,
    ⟨(some 14), .lenSl (.tmp 13), none, []⟩,
    ⟨(some 15), .bin .other .gtr (.tmp 14) (.c (.int .i64 65536)), none, []⟩]) k20x2) k20x1
/-- (*provenance/heap.Heap).Minor -/
def c20 : AFn := ⟨116, [.tmp 4, .tmp 5],
  .seq (.ops false [
    ⟨(some 4), .move (.c (.sl .nil 0)), none, []⟩,
    ⟨(some 5), .move (.c (.int .i64 0)), none, []⟩]) k20x0⟩
def S20xe0 (p0 : Option Ad) (p6 : Option Ad) (i7 : Int) (s8 : SA) (n8 : Nat) (h : Heap) : St := ⟨(.g [] true (.ptr p0) :: (rep 5 (.g [] true (.ptr p6) :: (.g [] true (.int .i64 i7) :: (.g [] true (.sl s8 n8) :: (rep 107 [])))))), h⟩
def S20xe2 (p0 : Option Ad) (p6 : Option Ad) (i7 : Int) (s8 : SA) (n8 : Nat) (h : Heap) : St := ⟨(.g [] true (.ptr p0) :: (rep 5 (.g [] true (.ptr p6) :: (.g [] true (.int .i64 i7) :: (.g [] true (.sl s8 n8) :: (rep 107 [])))))), h⟩
noncomputable def Q20x17 (M : Mk) (C : Cal) : Kont (AV × Heap) := (blockQ 0 (seqQ (evalE M C k20x16) (seqQ (evalE M C k20x14) (endQ [.tmp 4, .tmp 5]))))
noncomputable def L20x17 (p0 : Option Ad) (p6 : Option Ad) (i7 : Int) (s8 : SA) (n8 : Nat) (s60 : SA) (n60 : Nat) (i61 : Int) (i62 : Int) (h : Heap) (Q : Kont R) : Option R := loopE (evalE M C k20x17) 8070450532247929281 449 ⟨(.g [] true (.ptr p0) :: (rep 5 (.g [] true (.ptr p6) :: (.g [] true (.int .i64 i7) :: (.g [] true (.sl s8 n8) :: (rep 51 (.g [] true (.sl s60 n60) :: (.g [] true (.int .i64 i61) :: (.g [] true (.int .i64 i62) :: (rep 53 [])))))))))), h⟩ Q
noncomputable def Q20x28 (M : Mk) (C : Cal) : Kont (AV × Heap) := (blockQ 2 (seqQ (evalE M C k20x27) (seqQ (evalE M C k20x25) (endQ [.tmp 4, .tmp 5]))))
noncomputable def L20x28 (p0 : Option Ad) (p6 : Option Ad) (i7 : Int) (s8 : SA) (n8 : Nat) (s77 : SA) (n77 : Nat) (i78 : Int) (i79 : Int) (h : Heap) (Q : Kont R) : Option R := loopE (evalE M C k20x28) 1057810092162800527868353 449 ⟨(.g [] true (.ptr p0) :: (rep 5 (.g [] true (.ptr p6) :: (.g [] true (.int .i64 i7) :: (.g [] true (.sl s8 n8) :: (rep 68 (.g [] true (.sl s77 n77) :: (.g [] true (.int .i64 i78) :: (.g [] true (.int .i64 i79) :: (rep 36 [])))))))))), h⟩ Q
theorem r20 (p0 : Option Ad) (s1 : SA) (n1 : Nat) (h : Heap) : runE M C c20 [(.ptr p0), (.sl s1 n1)] h = (
  letK ((decide ((65536 : Int) < ((n1 : Nat) : Int))) : Bool) fun b15 =>
  if b15 = true then
    (
    some (.tup [(.sl .nil 0), (.int .i64 2)], h)
    )
  else
    (
    atP p0 true fun a17 =>
    gI .i64 (ld1 h (Ad.add a17 6)) true fun i19 =>
    atP p0 true fun a21 =>
    gI .i64 (ld1 h (Ad.add a21 3)) true fun i23 =>
    letK ((IntKind.wrap .i64 (i19 + i23)) : Int) fun i24 =>
    letK ((IntKind.wrap .i64 (i24 - 1)) : Int) fun i25 =>
    atP p0 true fun a27 =>
    gI .i64 (ld1 h (Ad.add a27 5)) true fun i29 =>
    atP p0 true fun a31 =>
    gI .i64 (ld1 h (Ad.add a31 4)) true fun i33 =>
    letK ((IntKind.wrap .i64 (i29 + i33)) : Int) fun i34 =>
    letK ((decide ((i34 : Int) < i25)) : Bool) fun b35 =>
    if b35 = true then
      (
      some (.tup [(.sl .nil 0), (.int .i64 16)], h)
      )
    else
      (
      atP p0 true fun a38 =>
      gI .i64 (ld1 h (Ad.add a38 6)) true fun i40 =>
      atP p0 true fun a42 =>
      gI .i64 (ld1 h (Ad.add a42 5)) true fun i44 =>
      atP p0 true fun a46 =>
      gI .i64 (ld1 h (Ad.add a46 4)) true fun i48 =>
      letK ((IntKind.wrap .i64 (i44 + i48)) : Int) fun i49 =>
      newK h (.map []) fun h_2 =>
      newK h_2 (.cells [(.ptr p0), (.int .i64 i40), (.int .i64 i49), (.map (some (List.length h))), (.bool true), (.bool false)] .fix 0) fun h_3 =>
      gI .i64 (ld1 h_3 (Ad.add ⟨List.length h_2, 0, 0⟩ 1)) true fun i56 =>
      chk ((0 : Int) ≤ ((n1 : Nat) : Int) ∧ (((n1 : Nat) : Int) : Int) ≤ ((n1 : Nat) : Int) ∧ ((n1 : Nat) : Int) * ((8 : Nat) : Int) ≤ 70368744177664) <|
      newK h_3 (.cells (repl (Int.toNat ((n1 : Nat) : Int)) [(.int .i64 0)]) (.grow 1) 0) fun h_4 =>
      letK ((Int.toNat ((n1 : Nat) : Int)) : Nat) fun n59 =>
      L20x17 M C p0 (some ⟨List.length h_2, 0, 0⟩) i56 (.pos ⟨List.length h_3, 0, 0⟩) n59 s1 n1 ((n1 : Nat) : Int) 0 h_4 (Q20x17 M C)
      )
    )
  ) := by kernel_rfl
theorem cf20 : cFn Try.prog 20 = some c20 := by kernel_rfl
theorem e20 (p0 : Option Ad) (s1 : SA) (n1 : Nat) (h : Heap) : E 20 [(.ptr p0), (.sl s1 n1)] h = (
  letK ((decide ((65536 : Int) < ((n1 : Nat) : Int))) : Bool) fun b15 =>
  if b15 = true then
    (
    some (.tup [(.sl .nil 0), (.int .i64 2)], h)
    )
  else
    (
    atP p0 true fun a17 =>
    gI .i64 (ld1 h (Ad.add a17 6)) true fun i19 =>
    atP p0 true fun a21 =>
    gI .i64 (ld1 h (Ad.add a21 3)) true fun i23 =>
    letK ((IntKind.wrap .i64 (i19 + i23)) : Int) fun i24 =>
    letK ((IntKind.wrap .i64 (i24 - 1)) : Int) fun i25 =>
    atP p0 true fun a27 =>
    gI .i64 (ld1 h (Ad.add a27 5)) true fun i29 =>
    atP p0 true fun a31 =>
    gI .i64 (ld1 h (Ad.add a31 4)) true fun i33 =>
    letK ((IntKind.wrap .i64 (i29 + i33)) : Int) fun i34 =>
    letK ((decide ((i34 : Int) < i25)) : Bool) fun b35 =>
    if b35 = true then
      (
      some (.tup [(.sl .nil 0), (.int .i64 16)], h)
      )
    else
      (
      atP p0 true fun a38 =>
      gI .i64 (ld1 h (Ad.add a38 6)) true fun i40 =>
      atP p0 true fun a42 =>
      gI .i64 (ld1 h (Ad.add a42 5)) true fun i44 =>
      atP p0 true fun a46 =>
      gI .i64 (ld1 h (Ad.add a46 4)) true fun i48 =>
      letK ((IntKind.wrap .i64 (i44 + i48)) : Int) fun i49 =>
      newK h (.map []) fun h_2 =>
      newK h_2 (.cells [(.ptr p0), (.int .i64 i40), (.int .i64 i49), (.map (some (List.length h))), (.bool true), (.bool false)] .fix 0) fun h_3 =>
      gI .i64 (ld1 h_3 (Ad.add ⟨List.length h_2, 0, 0⟩ 1)) true fun i56 =>
      chk ((0 : Int) ≤ ((n1 : Nat) : Int) ∧ (((n1 : Nat) : Int) : Int) ≤ ((n1 : Nat) : Int) ∧ ((n1 : Nat) : Int) * ((8 : Nat) : Int) ≤ 70368744177664) <|
      newK h_3 (.cells (repl (Int.toNat ((n1 : Nat) : Int)) [(.int .i64 0)]) (.grow 1) 0) fun h_4 =>
      letK ((Int.toNat ((n1 : Nat) : Int)) : Nat) fun n59 =>
      L20x17 mk0 E p0 (some ⟨List.length h_2, 0, 0⟩) i56 (.pos ⟨List.length h_3, 0, 0⟩) n59 s1 n1 ((n1 : Nat) : Int) 0 h_4 (Q20x17 mk0 E)
      )
    )
  ) := (EV_eq (P := Try.prog) (T := T0) rfl cf20 [(.ptr p0), (.sl s1 n1)] h).trans (r20 mk0 E p0 s1 n1 h)
theorem L20x17xaux (p0 : Option Ad) (p6 : Option Ad) (i7 : Int) (s8 : SA) (n8 : Nat) (s60 : SA) (n60 : Nat) (i61 : Int) (i62 : Int) (h : Heap) (Q : Kont R) : (restrF 8070450532247929281 ⟨(.g [] true (.ptr p0) :: (rep 5 (.g [] true (.ptr p6) :: (.g [] true (.int .i64 i7) :: (.g [] true (.sl s8 n8) :: (rep 51 (.g [] true (.sl s60 n60) :: (.g [] true (.int .i64 i61) :: (.g [] true (.int .i64 i62) :: (rep 53 [])))))))))), h⟩ fun σ => evalE M C k20x17 σ (roundQ M C k20x17 8070450532247929281 449 Q)) = (
  letK ((decide ((i62 : Int) < i61)) : Bool) fun b63 =>
  if b63 = true then
    (
    chk (true = true → (0 : Int) ≤ i62 ∧ (i62 : Int) < ((n60 : Nat) : Int)) <|
    atP (adP s60) true fun a65 =>
    gI .i64 (ld1 h (Ad.add a65 (Int.toNat i62 * 1))) true fun i66 =>
    (C 34 [(.ptr p6), (.int .i64 i66)] h).bind fun r71 =>
    gI .i64 (some r71.1) true fun i71 =>
    chk (true = true → (0 : Int) ≤ i62 ∧ (i62 : Int) < ((n8 : Nat) : Int)) <|
    atP (adP s8) true fun a72 =>
    (st1 r71.2 (Ad.add a72 (Int.toNat i62 * 1)) (.int .i64 i71)).bind fun h_2 =>
    letK ((IntKind.wrap .i64 (i62 + 1)) : Int) fun i73 =>
    L20x17 M C p0 p6 i7 s8 n8 s60 n60 i61 i73 h_2 Q
    )
  else
    (
    Q (.exit 0) (S20xe0 p0 p6 i7 s8 n8 h)
    )
  ) := by kernel_rfl
theorem L20x17xeq (p0 : Option Ad) (p6 : Option Ad) (i7 : Int) (s8 : SA) (n8 : Nat) (s60 : SA) (n60 : Nat) (i61 : Int) (i62 : Int) (h : Heap) (Q : Kont R) : L20x17 mk0 C p0 p6 i7 s8 n8 s60 n60 i61 i62 h Q = (
  letK ((decide ((i62 : Int) < i61)) : Bool) fun b63 =>
  if b63 = true then
    (
    chk (true = true → (0 : Int) ≤ i62 ∧ (i62 : Int) < ((n60 : Nat) : Int)) <|
    atP (adP s60) true fun a65 =>
    gI .i64 (ld1 h (Ad.add a65 (Int.toNat i62 * 1))) true fun i66 =>
    (C 34 [(.ptr p6), (.int .i64 i66)] h).bind fun r71 =>
    gI .i64 (some r71.1) true fun i71 =>
    chk (true = true → (0 : Int) ≤ i62 ∧ (i62 : Int) < ((n8 : Nat) : Int)) <|
    atP (adP s8) true fun a72 =>
    (st1 r71.2 (Ad.add a72 (Int.toNat i62 * 1)) (.int .i64 i71)).bind fun h_2 =>
    letK ((IntKind.wrap .i64 (i62 + 1)) : Int) fun i73 =>
    L20x17 mk0 C p0 p6 i7 s8 n8 s60 n60 i61 i73 h_2 Q
    )
  else
    (
    Q (.exit 0) (S20xe0 p0 p6 i7 s8 n8 h)
    )
  ) := loop_eqn C k20x17 8070450532247929281 449 (.g [] true (.ptr p0) :: (rep 5 (.g [] true (.ptr p6) :: (.g [] true (.int .i64 i7) :: (.g [] true (.sl s8 n8) :: (rep 51 (.g [] true (.sl s60 n60) :: (.g [] true (.int .i64 i61) :: (.g [] true (.int .i64 i62) :: (rep 53 [])))))))))) h Q (by kernel_rfl) (L20x17xaux mk0 C p0 p6 i7 s8 n8 s60 n60 i61 i62 h Q)
theorem X20x17xe0 (M : Mk) (C : Cal) (p0 : Option Ad) (p6 : Option Ad) (i7 : Int) (s8 : SA) (n8 : Nat) (h : Heap) : Q20x17 M C (.exit 0) (S20xe0 p0 p6 i7 s8 n8 h) = (
  atP p0 true fun a75 =>
  gL (ld1 h (Ad.add a75 7)) true fun s77 n77 =>
  L20x28 M C p0 p6 i7 s8 n8 s77 n77 ((n77 : Nat) : Int) 0 h (Q20x28 M C)
  ) := by kernel_rfl
theorem L20x28xaux (p0 : Option Ad) (p6 : Option Ad) (i7 : Int) (s8 : SA) (n8 : Nat) (s77 : SA) (n77 : Nat) (i78 : Int) (i79 : Int) (h : Heap) (Q : Kont R) : (restrF 1057810092162800527868353 ⟨(.g [] true (.ptr p0) :: (rep 5 (.g [] true (.ptr p6) :: (.g [] true (.int .i64 i7) :: (.g [] true (.sl s8 n8) :: (rep 68 (.g [] true (.sl s77 n77) :: (.g [] true (.int .i64 i78) :: (.g [] true (.int .i64 i79) :: (rep 36 [])))))))))), h⟩ fun σ => evalE M C k20x28 σ (roundQ M C k20x28 1057810092162800527868353 449 Q)) = (
  letK ((decide ((i79 : Int) < i78)) : Bool) fun b80 =>
  if b80 = true then
    (
    chk (true = true → (0 : Int) ≤ i79 ∧ (i79 : Int) < ((n77 : Nat) : Int)) <|
    atP (adP s77) true fun a81 =>
    gI .i64 (ld1 h (Ad.add a81 (Int.toNat i79 * 1))) true fun i82 =>
    atP p0 true fun a84 =>
    gL (ld1 h (Ad.add a84 0)) true fun s86 n86 =>
    atP p0 true fun a90 =>
    gL (ld1 h (Ad.add a90 0)) true fun s92 n92 =>
    chk (true = true → (0 : Int) ≤ i82 ∧ (i82 : Int) < ((n92 : Nat) : Int)) <|
    atP (adP s92) true fun a94 =>
    gI .i64 (ld1 h (Ad.add a94 (Int.toNat i82 * 1))) true fun i95 =>
    (C 34 [(.ptr p6), (.int .i64 i95)] h).bind fun r96 =>
    gI .i64 (some r96.1) true fun i96 =>
    chkC (true = true → ldN r96.2 (Ad.add a84 0) 1 = ldN h (Ad.add a84 0) 1) <|
    chk (true = true → (0 : Int) ≤ i82 ∧ (i82 : Int) < ((n86 : Nat) : Int)) <|
    atP (adP s86) true fun a97 =>
    (st1 r96.2 (Ad.add a97 (Int.toNat i82 * 1)) (.int .i64 i96)).bind fun h_2 =>
    letK ((IntKind.wrap .i64 (i79 + 1)) : Int) fun i98 =>
    L20x28 M C p0 p6 i7 s8 n8 s77 n77 i78 i98 h_2 Q
    )
  else
    (
    Q (.exit 2) (S20xe2 p0 p6 i7 s8 n8 h)
    )
  ) := by kernel_rfl
theorem L20x28xeq (p0 : Option Ad) (p6 : Option Ad) (i7 : Int) (s8 : SA) (n8 : Nat) (s77 : SA) (n77 : Nat) (i78 : Int) (i79 : Int) (h : Heap) (Q : Kont R) : L20x28 mk0 C p0 p6 i7 s8 n8 s77 n77 i78 i79 h Q = (
  letK ((decide ((i79 : Int) < i78)) : Bool) fun b80 =>
  if b80 = true then
    (
    chk (true = true → (0 : Int) ≤ i79 ∧ (i79 : Int) < ((n77 : Nat) : Int)) <|
    atP (adP s77) true fun a81 =>
    gI .i64 (ld1 h (Ad.add a81 (Int.toNat i79 * 1))) true fun i82 =>
    atP p0 true fun a84 =>
    gL (ld1 h (Ad.add a84 0)) true fun s86 n86 =>
    atP p0 true fun a90 =>
    gL (ld1 h (Ad.add a90 0)) true fun s92 n92 =>
    chk (true = true → (0 : Int) ≤ i82 ∧ (i82 : Int) < ((n92 : Nat) : Int)) <|
    atP (adP s92) true fun a94 =>
    gI .i64 (ld1 h (Ad.add a94 (Int.toNat i82 * 1))) true fun i95 =>
    (C 34 [(.ptr p6), (.int .i64 i95)] h).bind fun r96 =>
    gI .i64 (some r96.1) true fun i96 =>
    chkC (true = true → ldN r96.2 (Ad.add a84 0) 1 = ldN h (Ad.add a84 0) 1) <|
    chk (true = true → (0 : Int) ≤ i82 ∧ (i82 : Int) < ((n86 : Nat) : Int)) <|
    atP (adP s86) true fun a97 =>
    (st1 r96.2 (Ad.add a97 (Int.toNat i82 * 1)) (.int .i64 i96)).bind fun h_2 =>
    letK ((IntKind.wrap .i64 (i79 + 1)) : Int) fun i98 =>
    L20x28 mk0 C p0 p6 i7 s8 n8 s77 n77 i78 i98 h_2 Q
    )
  else
    (
    Q (.exit 2) (S20xe2 p0 p6 i7 s8 n8 h)
    )
  ) := loop_eqn C k20x28 1057810092162800527868353 449 (.g [] true (.ptr p0) :: (rep 5 (.g [] true (.ptr p6) :: (.g [] true (.int .i64 i7) :: (.g [] true (.sl s8 n8) :: (rep 68 (.g [] true (.sl s77 n77) :: (.g [] true (.int .i64 i78) :: (.g [] true (.int .i64 i79) :: (rep 36 [])))))))))) h Q (by kernel_rfl) (L20x28xaux mk0 C p0 p6 i7 s8 n8 s77 n77 i78 i79 h Q)
theorem X20x28xe2 (M : Mk) (C : Cal) (p0 : Option Ad) (p6 : Option Ad) (i7 : Int) (s8 : SA) (n8 : Nat) (h : Heap) : Q20x28 M C (.exit 2) (S20xe2 p0 p6 i7 s8 n8 h) = (
  (C 35 [(.ptr p6), (.int .i64 i7)] h).bind fun r101 =>
  gT 0 r101.1 true fun u101 =>
  atP p6 true fun a106 =>
  gI .i64 (ld1 r101.2 (Ad.add a106 1)) true fun i108 =>
  atP p0 true fun a109 =>
  (st1 r101.2 (Ad.add a109 6) (.int .i64 i108)).bind fun h_2 =>
  atP p0 true fun a111 =>
  (st1 h_2 (Ad.add a111 3) (.int .i64 1)).bind fun h_3 =>
  atP p0 true fun a113 =>
  (st1 h_3 (Ad.add a113 7) (.sl .nil 0)).bind fun h_4 =>
  some (.tup [(.sl s8 n8), (.int .i64 0)], h_4)
  ) := by kernel_rfl
def k5x6 : AC := .ret
def k5x5 : AC := .seq (.mask 16) k5x6
def k5x4 : AC := .mask 35
def k5x3 : AC := .seq (.cond (.tmp 31)
   (.seq (.ops false [
      ⟨(some 4), .move (.c (.bool false)), none, []⟩]) k5x5)
   (.skip)) k5x4
def k5x14 : AC := .ret
def k5x13 : AC := .seq (.mask 16) k5x14
def k5x12 : AC := .mask 291
def k5x11 : AC := .seq (.cond (.tmp 59)
   (.seq (.ops false [
      ⟨(some 4), .move (.c (.bool false)), none, []⟩]) k5x13)
   (.skip)) k5x12
def k5x20 : AC := .ret
def k5x19 : AC := .seq (.mask 16) k5x20
def k5x18 : AC := .mask 291
def k5x17 : AC := .seq (.cond (.tmp 80)
   (.seq (.ops false [
      ⟨(some 4), .move (.c (.bool false)), none, []⟩]) k5x19)
   (.skip)) k5x18
def k5x26 : AC := .ret
def k5x25 : AC := .seq (.mask 16) k5x26
def k5x24 : AC := .mask 291
def k5x23 : AC := .seq (.cond (.tmp 87)
   (.seq (.ops false [
      ⟨(some 4), .move (.c (.bool false)), none, []⟩]) k5x25)
   (.skip)) k5x24
def k5x22 : AC := .seq (.ops false [
    ⟨(some 86), .move (.tmp 6), none, []⟩,
    ⟨(some 87), .bin .other .neq (.tmp 86) (.c (.int .i64 0)), none, []⟩]) k5x23
def k5x32 : AC := .ret
def k5x31 : AC := .seq (.mask 16) k5x32
def k5x30 : AC := .seq (.ops true [
    ⟨(some 118), .move (.tmp 6), none, []⟩,
    ⟨(some 119), .bin .other .eql (.tmp 118) (.c (.int .i64 0)), none, []⟩,
    ⟨(some 120), .move (.tmp 119), none, []⟩,
    ⟨(some 121), .move (.tmp 9), (some (120, true)), []⟩,
    ⟨(some 122), .bin .other .eql (.tmp 121) (.c (.int .i64 0)), (some (120, true)), []⟩,
    ⟨(some 123), .pick (.tmp 120) (.tmp 122) (.c (.bool false)), none, []⟩,
    ⟨(some 124), .move (.tmp 123), none, []⟩,
    ⟨(some 125), .move (.tmp 17), (some (124, true)), []⟩,
    ⟨(some 126), .bin .other .eql (.tmp 125) (.c (.int .i64 0)), (some (124, true)), []⟩,
    ⟨(some 127), .pick (.tmp 124) (.tmp 126) (.c (.bool false)), none, []⟩,
    ⟨(some 128), .move (.tmp 127), none, []⟩,
    ⟨(some 129), .move (.tmp 11), (some (128, true)), []⟩,
    ⟨(some 130), .bin .other .eql (.tmp 129) (.c (.int .i64 0)), (some (128, true)), []⟩,
    ⟨(some 131), .pick (.tmp 128) (.tmp 130) (.c (.bool false)), none, []⟩,
    ⟨(some 132), .move (.tmp 131), none, []⟩,
    ⟨(some 133), .move (.tmp 12), (some (132, true)), []⟩,
    ⟨(some 134), .move (.tmp 0), (some (132, true)), []⟩,
    ⟨(some 135), .bin .other .add (.c (.int .i64 2)) (.tmp 134), (some (132, true)), []⟩,
    ⟨(some 136), .bin .other .add (.tmp 135) (.c (.int .i64 1)), (some (132, true)), []⟩,
    ⟨(some 137), .bin .other .eql (.tmp 133) (.tmp 136), (some (132, true)), []⟩,
    ⟨(some 138), .pick (.tmp 132) (.tmp 137) (.c (.bool false)), none, []⟩,
    ⟨(some 139), .move (.tmp 138), none, []⟩,
    ⟨(some 140), .move (.tmp 14), (some (139, true)), []⟩,
    ⟨(some 141), .bin .other .eql (.tmp 140) (.c (.int .i64 3)), (some (139, true)), []⟩,
    ⟨(some 142), .pick (.tmp 139) (.tmp 141) (.c (.bool false)), none, []⟩,
    ⟨(some 143), .move (.tmp 142), none, []⟩,
    ⟨(some 144), .move (.tmp 15), (some (143, true)), []⟩,
    ⟨(some 145), .move (.tmp 0), (some (143, true)), []⟩,
    ⟨(some 146), .bin .other .eql (.tmp 144) (.tmp 145), (some (143, true)), []⟩,
    ⟨(some 147), .pick (.tmp 143) (.tmp 146) (.c (.bool false)), none, []⟩,
    ⟨(some 148), .move (.tmp 147), none, []⟩,
    ⟨(some 149), .move (.tmp 16), (some (148, true)), []⟩,
    ⟨(some 150), .move (.tmp 1), (some (148, true)), []⟩,
    ⟨(some 151), .bin .other .mul (.c (.int .i64 2)) (.tmp 150), (some (148, true)), []⟩,
    ⟨(some 152), .bin .other .add (.tmp 151) (.c (.int .i64 1)), (some (148, true)), []⟩,
    ⟨(some 153), .bin .other .eql (.tmp 149) (.tmp 152), (some (148, true)), []⟩,
    ⟨(some 154), .pick (.tmp 148) (.tmp 153) (.c (.bool false)), none, []⟩,
    ⟨(some 4), .move (.tmp 154), none, []⟩]) k5x31
def k5x29 : AC := .seq (.ops false [
    ⟨(some 110), .move (.tmp 5), none, []⟩,
    ⟨(some 111), .move (.tmp 13), none, []⟩,
    ⟨(some 112), .move (.tmp 0), none, []⟩,
    ⟨(some 113), .bin .other .mul (.c (.int .i64 2)) (.tmp 112), none, []⟩,
    ⟨(some 114), .bin .other .add (.tmp 111) (.tmp 113), none, []⟩,
    ⟨(some 115), .call 22 [(.tmp 110), (.tmp 114)] [(.cell (.int .i64)), (.cell (.int .i64))] .opq, none, []⟩,
    ⟨(some 109), .move (.tmp 115), none, []⟩,
    ⟨(some 116), .extract (.tmp 109) 0, none, []⟩,
    ⟨(some 117), .extract (.tmp 109) 1, none, []⟩,
    ⟨(some 16), .move (.tmp 116), none, []⟩,
    ⟨(some 17), .move (.tmp 117), none, []⟩]) k5x30
def k5x28 : AC := .seq (.ops false [
    ⟨(some 103), .move (.tmp 5), none, []⟩,
    ⟨(some 104), .move (.tmp 13), none, []⟩,
    ⟨(some 105), .call 15 [(.tmp 103), (.tmp 104)] [(.cell (.int .i64)), (.cell (.int .i64)), (.cell (.int .i64))] .opq, none, []⟩,
    ⟨(some 102), .move (.tmp 105), none, []⟩,
    ⟨(some 106), .extract (.tmp 102) 0, none, []⟩,
    ⟨(some 107), .extract (.tmp 102) 1, none, []⟩,
    ⟨(some 108), .extract (.tmp 102) 2, none, []⟩,
    ⟨(some 14), .move (.tmp 106), none, []⟩,
    ⟨(some 15), .move (.tmp 107), none, []⟩,
    ⟨(some 9), .move (.tmp 108), none, []⟩]) k5x29
def k5x27 : AC := .seq (.ops false [
    ⟨(some 94), .move (.tmp 5), none, []⟩,
    ⟨(some 95), .move (.tmp 8), none, []⟩,
    ⟨(some 96), .indexAddr 1 (.tmp 95) (.c (.int .i64 0)), none, []⟩,
    ⟨(some 97), .load (.cell (.int .i64)) (.tmp 96), none, []⟩,
    ⟨(some 98), .bin .other .add (.tmp 97) (.c (.int .i64 2)), none, []⟩,
    ⟨(some 99), .call 22 [(.tmp 94), (.tmp 98)] [(.cell (.int .i64)), (.cell (.int .i64))] .opq, none, []⟩,
    ⟨(some 93), .move (.tmp 99), none, []⟩,
    ⟨(some 100), .extract (.tmp 93) 0, none, []⟩,
    ⟨(some 101), .extract (.tmp 93) 1, none, []⟩,
    ⟨(some 13), .move (.tmp 100), none, []⟩,
    ⟨(some 6), .move (.tmp 101), none, []⟩]) k5x28
def k5x21 : AC := .seq (.ops false [
    ⟨(some 89), .move (.tmp 5), none, []⟩,
    ⟨(some 90), .call 16 [(.tmp 89)] [(.cell (.int .i64)), (.cell (.int .i64))] .opq, none, []⟩,
    ⟨(some 88), .move (.tmp 90), none, []⟩,
    ⟨(some 91), .extract (.tmp 88) 0, none, []⟩,
    ⟨(some 92), .extract (.tmp 88) 1, none, []⟩,
    ⟨(some 11), .move (.tmp 91), none, []⟩,
    ⟨(some 12), .move (.tmp 92), none, []⟩]) k5x27
def k5x16 : AC := .seq (.seq (.ops false [
    ⟨(some 82), .move (.tmp 5), none, []⟩,
    ⟨(some 83), .call 20 [(.tmp 82), (.c (.sl .nil 0))] [(.cell .sl), (.cell (.int .i64))] .opq, none, []⟩,
    ⟨(some 81), .move (.tmp 83), none, []⟩,
    ⟨(some 84), .extract (.tmp 81) 0, none, []⟩,
    ⟨(some 85), .extract (.tmp 81) 1, none, []⟩,
    ⟨(some 6), .move (.tmp 85), none, []⟩]) k5x22) k5x21
def k5x15 : AC := .seq (.seq (.ops true [
    ⟨(some 69), .move (.tmp 6), none, []⟩,
    ⟨(some 70), .bin .other .neq (.tmp 69) (.c (.int .i64 0)), none, []⟩,
    ⟨(some 71), .move (.tmp 70), none, []⟩,
    ⟨(some 72), .move (.tmp 5), (some (71, false)), []⟩,
    ⟨(some 73), .move (.tmp 8), (some (71, false)), []⟩,
    ⟨(some 74), .indexAddr 1 (.tmp 73) (.c (.int .i64 0)), (some (71, false)), []⟩,
    ⟨(some 75), .load (.cell (.int .i64)) (.tmp 74), (some (71, false)), []⟩,
    ⟨(some 76), .bin .other .add (.tmp 75) (.c (.int .i64 2)), (some (71, false)), []⟩,
    ⟨(some 77), .move (.tmp 10), (some (71, false)), []⟩,
    ⟨(some 78), .call 21 [(.tmp 72), (.tmp 76), (.tmp 77)] [(.cell (.int .i64))] (.int .i64 0), (some (71, false)), []⟩,
    ⟨(some 79), .bin .other .neq (.tmp 78) (.c (.int .i64 0)), (some (71, false)), []⟩,
    ⟨(some 80), .pick (.tmp 71) (.c (.bool true)) (.tmp 79), none, []⟩]) k5x17) k5x16
def k5x10 : AC := .seq (.ops false [
    ⟨(some 61), .move (.tmp 5), none, []⟩,
    ⟨(some 62), .move (.tmp 0), none, []⟩,
    ⟨(some 63), .move (.tmp 1), none, []⟩,
    ⟨(some 64), .bin .other .mul (.c (.int .i64 2)) (.tmp 63), none, []⟩,
    ⟨(some 65), .bin .other .add (.tmp 64) (.c (.int .i64 1)), none, []⟩,
    ⟨(some 66), .call 14 [(.tmp 61), (.c (.int .i64 3)), (.tmp 62), (.tmp 65)] [(.cell (.int .i64)), (.cell (.int .i64))] .opq, none, []⟩,
    ⟨(some 60), .move (.tmp 66), none, []⟩,
    ⟨(some 67), .extract (.tmp 60) 0, none, []⟩,
    ⟨(some 68), .extract (.tmp 60) 1, none, []⟩,
    ⟨(some 10), .move (.tmp 67), none, []⟩,
    ⟨(some 6), .move (.tmp 68), none, []⟩]) k5x15
def k5x9 : AC := .seq (.seq (.ops true [
    ⟨(some 49), .move (.tmp 6), none, []⟩,
    ⟨(some 50), .bin .other .neq (.tmp 49) (.c (.int .i64 0)), none, []⟩,
    ⟨(some 51), .move (.tmp 50), none, []⟩,
    ⟨(some 52), .move (.tmp 9), (some (51, false)), []⟩,
    ⟨(some 53), .bin .other .neq (.tmp 52) (.c (.int .i64 0)), (some (51, false)), []⟩,
    ⟨(some 54), .pick (.tmp 51) (.c (.bool true)) (.tmp 53), none, []⟩,
    ⟨(some 55), .move (.tmp 54), none, []⟩,
    ⟨(some 56), .move (.tmp 8), (some (55, false)), []⟩,
    ⟨(some 57), .lenSl (.tmp 56), (some (55, false)), []⟩,
    ⟨(some 58), .bin .other .neq (.tmp 57) (.c (.int .i64 1)), (some (55, false)), []⟩,
    ⟨(some 59), .pick (.tmp 55) (.c (.bool true)) (.tmp 58), none, []⟩]) k5x11) k5x10
def k5x8 : AC := .seq (.ops false [
    ⟨(some 43), .move (.tmp 5), none, []⟩,
    ⟨(some 44), .move (.tmp 7), none, []⟩,
    ⟨(some 45), .buildSl [(.int .i64 0)] 1 [(0, (.tmp 44))], none, []⟩,
    ⟨(some 46), .call 20 [(.tmp 43), (.tmp 45)] [(.cell .sl), (.cell (.int .i64))] .opq, none, []⟩,
    ⟨(some 42), .move (.tmp 46), none, []⟩,
    ⟨(some 47), .extract (.tmp 42) 0, none, []⟩,
    ⟨(some 48), .extract (.tmp 42) 1, none, []⟩,
    ⟨(some 8), .move (.tmp 47), none, []⟩,
    ⟨(some 9), .move (.tmp 48), none, []⟩]) k5x9
def k5x7 : AC := .seq (.ops false [
    ⟨(some 38), .move (.tmp 5), none, []⟩,
    ⟨(some 39), .call 14 [(.tmp 38), (.c (.int .i64 2)), (.c (.int .i64 1)), (.c (.int .i64 1))] [(.cell (.int .i64)), (.cell (.int .i64))] .opq, none, []⟩,
    ⟨(some 37), .move (.tmp 39), none, []⟩,
    ⟨(some 40), .extract (.tmp 37) 0, none, []⟩,
    ⟨(some 41), .extract (.tmp 37) 1, none, []⟩,
    ⟨(some 7), .move (.tmp 40), none, []⟩,
    ⟨(some 6), .move (.tmp 41), none, []⟩]) k5x8
def k5x2 : AC := .seq (.ops false [
    ⟨(some 32), .move (.tmp 0), none, []⟩,
    ⟨(some 33), .call 11 [(.tmp 32), (.c (.int .i64 4))] [(.cell (.int .i64))] (.int .i64 0), none, []⟩,
    ⟨(some 34), .bin .other .add (.c (.int .i64 1)) (.tmp 33), none, []⟩,
    ⟨(some 35), .move (.tmp 1), none, []⟩,
    ⟨(some 36), .call 11 [(.tmp 35), (.c (.int .i64 1000))] [(.cell (.int .i64))] (.int .i64 0), none, []⟩,
    ⟨(some 0), .move (.tmp 34), none, []⟩,
    ⟨(some 1), .move (.tmp 36), none, []⟩]) k5x7
def k5x1 : AC := .seq (.seq (.ops true [
    ⟨(some 22), .call 12 [] [(.cell .bool)] (.bool false), none, []⟩,
    ⟨(some 23), .un .not (.tmp 22), none, []⟩,
    ⟨(some 24), .move (.tmp 23), none, []⟩,
    ⟨(some 25), .move (.tmp 6), (some (24, false)), []⟩,
    ⟨(some 26), .bin .other .neq (.tmp 25) (.c (.int .i64 0)), (some (24, false)), []⟩,
    ⟨(some 27), .pick (.tmp 24) (.c (.bool true)) (.tmp 26), none, []⟩,
    ⟨(some 28), .move (.tmp 27), none, []⟩,
    ⟨(some 29), .move (.tmp 5), (some (28, false)), []⟩,
    ⟨(some 30), .bin .ptr .eql (.tmp 29) (.c (.ptr none)), (some (28, false)), []⟩,
    ⟨(some 31), .pick (.tmp 28) (.c (.bool true)) (.tmp 30), none, []⟩]) k5x3) k5x2
def k5x0 : AC := .seq (.ops false [
    ⟨(some 19), .call 10 [(.c (.int .i64 200)), (.c (.int .i64 8)), (.c (.int .i64 20))] [(.cell .ptr), (.cell (.int .i64))] .opq, none, []⟩,
    ⟨(some 18), .move (.tmp 19), none, []⟩,
    ⟨(some 20), .extract (.tmp 18) 0, none, []⟩,
    ⟨(some 21), .extract (.tmp 18) 1, none, []⟩,
    ⟨(some 5), .move (.tmp 20), none, []⟩,
    ⟨(some 6), .move (.tmp 21), none, []⟩]) k5x1
/-- provenance/provenancekeep4.HeapMinor -/
def c5 : AFn := ⟨155, [.tmp 4],
  .seq (.ops false [
    ⟨(some 4), .move (.c (.bool false)), none, []⟩]) k5x0⟩
theorem r5 (i0 : Int) (i1 : Int) (h : Heap) : runE M C c5 [(.int .i64 i0), (.int .i64 i1)] h = (
  (C 10 [(.int .i64 200), (.int .i64 8), (.int .i64 20)] h).bind fun r19 =>
  gT 2 r19.1 true fun u19 =>
  gP (some (List.getD u19 0 .opq)) true fun p19x0 =>
  gI .i64 (some (List.getD u19 1 .opq)) true fun i19x1 =>
  (C 12 [] r19.2).bind fun r22 =>
  gB (some r22.1) true fun b22 =>
  letK ((!decide ((i19x1 : Int) = 0)) : Bool) fun b26 =>
  letK ((if (!b22) = true then true else b26) : Bool) fun b27 =>
  letK ((Option.isNone p19x0) : Bool) fun b30 =>
  letK ((if b27 = true then true else b30) : Bool) fun b31 =>
  if b31 = true then
    (
    some ((.bool false), r22.2)
    )
  else
    (
    (C 11 [(.int .i64 i0), (.int .i64 4)] r22.2).bind fun r33 =>
    gI .i64 (some r33.1) true fun i33 =>
    letK ((IntKind.wrap .i64 (1 + i33)) : Int) fun i34 =>
    (C 11 [(.int .i64 i1), (.int .i64 1000)] r33.2).bind fun r36 =>
    gI .i64 (some r36.1) true fun i36 =>
    (C 14 [(.ptr p19x0), (.int .i64 2), (.int .i64 1), (.int .i64 1)] r36.2).bind fun r39 =>
    gT 2 r39.1 true fun u39 =>
    gI .i64 (some (List.getD u39 0 .opq)) true fun i39x0 =>
    gI .i64 (some (List.getD u39 1 .opq)) true fun i39x1 =>
    newK r39.2 (.cells [(.int .i64 i39x0)] (.grow 1) 0) fun h_2 =>
    (C 20 [(.ptr p19x0), (.sl (.pos ⟨List.length r39.2, 0, 0⟩) 1)] h_2).bind fun r46 =>
    gT 2 r46.1 true fun u46 =>
    gL (some (List.getD u46 0 .opq)) true fun s46x0 n46x0 =>
    gI .i64 (some (List.getD u46 1 .opq)) true fun i46x1 =>
    letK ((!decide ((i39x1 : Int) = 0)) : Bool) fun b50 =>
    letK ((!decide ((i46x1 : Int) = 0)) : Bool) fun b53 =>
    letK ((if b50 = true then true else b53) : Bool) fun b54 =>
    letK ((!decide ((((n46x0 : Nat) : Int) : Int) = 1)) : Bool) fun b58 =>
    letK ((if b54 = true then true else b58) : Bool) fun b59 =>
    if b59 = true then
      (
      some ((.bool false), r46.2)
      )
    else
      (
      letK ((IntKind.wrap .i64 (2 * i36)) : Int) fun i64 =>
      letK ((IntKind.wrap .i64 (i64 + 1)) : Int) fun i65 =>
      (C 14 [(.ptr p19x0), (.int .i64 3), (.int .i64 i34), (.int .i64 i65)] r46.2).bind fun r66 =>
      gT 2 r66.1 true fun u66 =>
      gI .i64 (some (List.getD u66 0 .opq)) true fun i66x0 =>
      gI .i64 (some (List.getD u66 1 .opq)) true fun i66x1 =>
      letK ((!decide ((i66x1 : Int) = 0)) : Bool) fun b70 =>
      chk ((!b70) = true → (0 : Int) ≤ 0 ∧ (0 : Int) < ((n46x0 : Nat) : Int)) <|
      atP (adP s46x0) (!b70) fun a74 =>
      atP (some (Ad.add a74 (Int.toNat 0 * 1))) (!b70) fun a75 =>
      gI .i64 (ld1 r66.2 a75) (!b70) fun i75 =>
      letK ((IntKind.wrap .i64 (i75 + 2)) : Int) fun i76 =>
      (callO (!b70) (C 21 [(.ptr p19x0), (.int .i64 i76), (.int .i64 i66x0)] r66.2) (.int .i64 0) r66.2).bind fun r78 =>
      gI .i64 (some r78.1) (!b70) fun i78 =>
      letK ((!decide ((i78 : Int) = 0)) : Bool) fun b79 =>
      letK ((if b70 = true then true else b79) : Bool) fun b80 =>
      if b80 = true then
        (
        some ((.bool false), r78.2)
        )
      else
        (
        (C 20 [(.ptr p19x0), (.sl .nil 0)] r78.2).bind fun r83 =>
        gT 2 r83.1 true fun u83 =>
        gL (some (List.getD u83 0 .opq)) true fun s83x0 n83x0 =>
        gI .i64 (some (List.getD u83 1 .opq)) true fun i83x1 =>
        letK ((!decide ((i83x1 : Int) = 0)) : Bool) fun b87 =>
        if b87 = true then
          (
          some ((.bool false), r83.2)
          )
        else
          (
          (C 16 [(.ptr p19x0)] r83.2).bind fun r90 =>
          gT 2 r90.1 true fun u90 =>
          gI .i64 (some (List.getD u90 0 .opq)) true fun i90x0 =>
          gI .i64 (some (List.getD u90 1 .opq)) true fun i90x1 =>
          chk (true = true → (0 : Int) ≤ 0 ∧ (0 : Int) < ((n46x0 : Nat) : Int)) <|
          atP (adP s46x0) true fun a96 =>
          gI .i64 (ld1 r90.2 (Ad.add a96 (Int.toNat 0 * 1))) true fun i97 =>
          letK ((IntKind.wrap .i64 (i97 + 2)) : Int) fun i98 =>
          (C 22 [(.ptr p19x0), (.int .i64 i98)] r90.2).bind fun r99 =>
          gT 2 r99.1 true fun u99 =>
          gI .i64 (some (List.getD u99 0 .opq)) true fun i99x0 =>
          gI .i64 (some (List.getD u99 1 .opq)) true fun i99x1 =>
          (C 15 [(.ptr p19x0), (.int .i64 i99x0)] r99.2).bind fun r105 =>
          gT 3 r105.1 true fun u105 =>
          gI .i64 (some (List.getD u105 0 .opq)) true fun i105x0 =>
          gI .i64 (some (List.getD u105 1 .opq)) true fun i105x1 =>
          gI .i64 (some (List.getD u105 2 .opq)) true fun i105x2 =>
          letK ((IntKind.wrap .i64 (2 * i34)) : Int) fun i113 =>
          letK ((IntKind.wrap .i64 (i99x0 + i113)) : Int) fun i114 =>
          (C 22 [(.ptr p19x0), (.int .i64 i114)] r105.2).bind fun r115 =>
          gT 2 r115.1 true fun u115 =>
          gI .i64 (some (List.getD u115 0 .opq)) true fun i115x0 =>
          gI .i64 (some (List.getD u115 1 .opq)) true fun i115x1 =>
          letK ((decide ((i99x1 : Int) = 0)) : Bool) fun b119 =>
          letK ((decide ((i105x2 : Int) = 0)) : Bool) fun b122 =>
          letK ((if b119 = true then b122 else false) : Bool) fun b123 =>
          letK ((decide ((i115x1 : Int) = 0)) : Bool) fun b126 =>
          letK ((if b123 = true then b126 else false) : Bool) fun b127 =>
          letK ((decide ((i90x0 : Int) = 0)) : Bool) fun b130 =>
          letK ((if b127 = true then b130 else false) : Bool) fun b131 =>
          letK ((IntKind.wrap .i64 (2 + i34)) : Int) fun i135 =>
          letK ((IntKind.wrap .i64 (i135 + 1)) : Int) fun i136 =>
          letK ((decide ((i90x1 : Int) = i136)) : Bool) fun b137 =>
          letK ((if b131 = true then b137 else false) : Bool) fun b138 =>
          letK ((decide ((i105x0 : Int) = 3)) : Bool) fun b141 =>
          letK ((if b138 = true then b141 else false) : Bool) fun b142 =>
          letK ((decide ((i105x1 : Int) = i34)) : Bool) fun b146 =>
          letK ((if b142 = true then b146 else false) : Bool) fun b147 =>
          letK ((IntKind.wrap .i64 (2 * i36)) : Int) fun i151 =>
          letK ((IntKind.wrap .i64 (i151 + 1)) : Int) fun i152 =>
          letK ((decide ((i115x0 : Int) = i152)) : Bool) fun b153 =>
          letK ((if b147 = true then b153 else false) : Bool) fun b154 =>
          some ((.bool b154), r115.2)
          )
        )
      )
    )
  ) := by kernel_rfl
theorem cf5 : cFn Try.prog 5 = some c5 := by kernel_rfl
theorem e5 (i0 : Int) (i1 : Int) (h : Heap) : E 5 [(.int .i64 i0), (.int .i64 i1)] h = (
  (E 10 [(.int .i64 200), (.int .i64 8), (.int .i64 20)] h).bind fun r19 =>
  gT 2 r19.1 true fun u19 =>
  gP (some (List.getD u19 0 .opq)) true fun p19x0 =>
  gI .i64 (some (List.getD u19 1 .opq)) true fun i19x1 =>
  (E 12 [] r19.2).bind fun r22 =>
  gB (some r22.1) true fun b22 =>
  letK ((!decide ((i19x1 : Int) = 0)) : Bool) fun b26 =>
  letK ((if (!b22) = true then true else b26) : Bool) fun b27 =>
  letK ((Option.isNone p19x0) : Bool) fun b30 =>
  letK ((if b27 = true then true else b30) : Bool) fun b31 =>
  if b31 = true then
    (
    some ((.bool false), r22.2)
    )
  else
    (
    (E 11 [(.int .i64 i0), (.int .i64 4)] r22.2).bind fun r33 =>
    gI .i64 (some r33.1) true fun i33 =>
    letK ((IntKind.wrap .i64 (1 + i33)) : Int) fun i34 =>
    (E 11 [(.int .i64 i1), (.int .i64 1000)] r33.2).bind fun r36 =>
    gI .i64 (some r36.1) true fun i36 =>
    (E 14 [(.ptr p19x0), (.int .i64 2), (.int .i64 1), (.int .i64 1)] r36.2).bind fun r39 =>
    gT 2 r39.1 true fun u39 =>
    gI .i64 (some (List.getD u39 0 .opq)) true fun i39x0 =>
    gI .i64 (some (List.getD u39 1 .opq)) true fun i39x1 =>
    newK r39.2 (.cells [(.int .i64 i39x0)] (.grow 1) 0) fun h_2 =>
    (E 20 [(.ptr p19x0), (.sl (.pos ⟨List.length r39.2, 0, 0⟩) 1)] h_2).bind fun r46 =>
    gT 2 r46.1 true fun u46 =>
    gL (some (List.getD u46 0 .opq)) true fun s46x0 n46x0 =>
    gI .i64 (some (List.getD u46 1 .opq)) true fun i46x1 =>
    letK ((!decide ((i39x1 : Int) = 0)) : Bool) fun b50 =>
    letK ((!decide ((i46x1 : Int) = 0)) : Bool) fun b53 =>
    letK ((if b50 = true then true else b53) : Bool) fun b54 =>
    letK ((!decide ((((n46x0 : Nat) : Int) : Int) = 1)) : Bool) fun b58 =>
    letK ((if b54 = true then true else b58) : Bool) fun b59 =>
    if b59 = true then
      (
      some ((.bool false), r46.2)
      )
    else
      (
      letK ((IntKind.wrap .i64 (2 * i36)) : Int) fun i64 =>
      letK ((IntKind.wrap .i64 (i64 + 1)) : Int) fun i65 =>
      (E 14 [(.ptr p19x0), (.int .i64 3), (.int .i64 i34), (.int .i64 i65)] r46.2).bind fun r66 =>
      gT 2 r66.1 true fun u66 =>
      gI .i64 (some (List.getD u66 0 .opq)) true fun i66x0 =>
      gI .i64 (some (List.getD u66 1 .opq)) true fun i66x1 =>
      letK ((!decide ((i66x1 : Int) = 0)) : Bool) fun b70 =>
      chk ((!b70) = true → (0 : Int) ≤ 0 ∧ (0 : Int) < ((n46x0 : Nat) : Int)) <|
      atP (adP s46x0) (!b70) fun a74 =>
      atP (some (Ad.add a74 (Int.toNat 0 * 1))) (!b70) fun a75 =>
      gI .i64 (ld1 r66.2 a75) (!b70) fun i75 =>
      letK ((IntKind.wrap .i64 (i75 + 2)) : Int) fun i76 =>
      (callO (!b70) (E 21 [(.ptr p19x0), (.int .i64 i76), (.int .i64 i66x0)] r66.2) (.int .i64 0) r66.2).bind fun r78 =>
      gI .i64 (some r78.1) (!b70) fun i78 =>
      letK ((!decide ((i78 : Int) = 0)) : Bool) fun b79 =>
      letK ((if b70 = true then true else b79) : Bool) fun b80 =>
      if b80 = true then
        (
        some ((.bool false), r78.2)
        )
      else
        (
        (E 20 [(.ptr p19x0), (.sl .nil 0)] r78.2).bind fun r83 =>
        gT 2 r83.1 true fun u83 =>
        gL (some (List.getD u83 0 .opq)) true fun s83x0 n83x0 =>
        gI .i64 (some (List.getD u83 1 .opq)) true fun i83x1 =>
        letK ((!decide ((i83x1 : Int) = 0)) : Bool) fun b87 =>
        if b87 = true then
          (
          some ((.bool false), r83.2)
          )
        else
          (
          (E 16 [(.ptr p19x0)] r83.2).bind fun r90 =>
          gT 2 r90.1 true fun u90 =>
          gI .i64 (some (List.getD u90 0 .opq)) true fun i90x0 =>
          gI .i64 (some (List.getD u90 1 .opq)) true fun i90x1 =>
          chk (true = true → (0 : Int) ≤ 0 ∧ (0 : Int) < ((n46x0 : Nat) : Int)) <|
          atP (adP s46x0) true fun a96 =>
          gI .i64 (ld1 r90.2 (Ad.add a96 (Int.toNat 0 * 1))) true fun i97 =>
          letK ((IntKind.wrap .i64 (i97 + 2)) : Int) fun i98 =>
          (E 22 [(.ptr p19x0), (.int .i64 i98)] r90.2).bind fun r99 =>
          gT 2 r99.1 true fun u99 =>
          gI .i64 (some (List.getD u99 0 .opq)) true fun i99x0 =>
          gI .i64 (some (List.getD u99 1 .opq)) true fun i99x1 =>
          (E 15 [(.ptr p19x0), (.int .i64 i99x0)] r99.2).bind fun r105 =>
          gT 3 r105.1 true fun u105 =>
          gI .i64 (some (List.getD u105 0 .opq)) true fun i105x0 =>
          gI .i64 (some (List.getD u105 1 .opq)) true fun i105x1 =>
          gI .i64 (some (List.getD u105 2 .opq)) true fun i105x2 =>
          letK ((IntKind.wrap .i64 (2 * i34)) : Int) fun i113 =>
          letK ((IntKind.wrap .i64 (i99x0 + i113)) : Int) fun i114 =>
          (E 22 [(.ptr p19x0), (.int .i64 i114)] r105.2).bind fun r115 =>
          gT 2 r115.1 true fun u115 =>
          gI .i64 (some (List.getD u115 0 .opq)) true fun i115x0 =>
          gI .i64 (some (List.getD u115 1 .opq)) true fun i115x1 =>
          letK ((decide ((i99x1 : Int) = 0)) : Bool) fun b119 =>
          letK ((decide ((i105x2 : Int) = 0)) : Bool) fun b122 =>
          letK ((if b119 = true then b122 else false) : Bool) fun b123 =>
          letK ((decide ((i115x1 : Int) = 0)) : Bool) fun b126 =>
          letK ((if b123 = true then b126 else false) : Bool) fun b127 =>
          letK ((decide ((i90x0 : Int) = 0)) : Bool) fun b130 =>
          letK ((if b127 = true then b130 else false) : Bool) fun b131 =>
          letK ((IntKind.wrap .i64 (2 + i34)) : Int) fun i135 =>
          letK ((IntKind.wrap .i64 (i135 + 1)) : Int) fun i136 =>
          letK ((decide ((i90x1 : Int) = i136)) : Bool) fun b137 =>
          letK ((if b131 = true then b137 else false) : Bool) fun b138 =>
          letK ((decide ((i105x0 : Int) = 3)) : Bool) fun b141 =>
          letK ((if b138 = true then b141 else false) : Bool) fun b142 =>
          letK ((decide ((i105x1 : Int) = i34)) : Bool) fun b146 =>
          letK ((if b142 = true then b146 else false) : Bool) fun b147 =>
          letK ((IntKind.wrap .i64 (2 * i36)) : Int) fun i151 =>
          letK ((IntKind.wrap .i64 (i151 + 1)) : Int) fun i152 =>
          letK ((decide ((i115x0 : Int) = i152)) : Bool) fun b153 =>
          letK ((if b147 = true then b153 else false) : Bool) fun b154 =>
          some ((.bool b154), r115.2)
          )
        )
      )
    )
  ) := (EV_eq (P := Try.prog) (T := T0) rfl cf5 [(.int .i64 i0), (.int .i64 i1)] h).trans (r5 mk0 E i0 i1 h)
def k19x5 : AC := .ret
def k19x4 : AC := .seq (.mask 48) k19x5
def k19x3 : AC := .mask 3
def k19x2 : AC := .seq (.cond (.tmp 13)
   (.seq (.ops false [
      ⟨(some 4), .move (.c (.sl .nil 0)), none, []⟩,
      ⟨(some 5), .move (.c (.int .i64 2)), none, []⟩]) k19x4)
   (.skip)) k19x3
def k19x9 : AC := .join 67
def k19x8 : AC := .seq (.cond (.tmp 26)
   (.ops false [
      ⟨(some 27), .move (.tmp 0), none, []⟩,
      ⟨(some 28), .nilCheck (.tmp 27), none, []⟩,
      ⟨(some 29), .fieldAddr 2 (.tmp 28), none, []⟩,
      ⟨(some 30), .load (.cell (.int .i64)) (.tmp 29), none, []⟩,
      ⟨(some 31), .move (.tmp 0), none, []⟩,
      ⟨(some 32), .nilCheck (.tmp 31), none, []⟩,
      ⟨(some 33), .fieldAddr 4 (.tmp 32), none, []⟩,
      ⟨(some 34), .load (.cell (.int .i64)) (.tmp 33), none, []⟩,
      ⟨(some 35), .bin .other .add (.tmp 30) (.tmp 34), none, []⟩,
      ⟨(some 6), .move (.tmp 35), none, []⟩])
   (.skip)) k19x9
def k19x20 : AC := .exit 0
def k19x19 : AC := .mask 7881299347898817
def k19x23 : AC := .ops false [
    ⟨(some 57), .move (.tmp 8), none, []⟩,
    ⟨(some 58), .move (.tmp 9), none, []⟩,
    ⟨(some 59), .move (.tmp 7), none, []⟩,
    ⟨(some 60), .move (.tmp 10), none, []⟩,
    ⟨(some 61), .call 34 [(.tmp 59), (.tmp 60)] [(.cell (.int .i64))] (.int .i64 0), none, []⟩,
    ⟨(some 62), .indexAddr 1 (.tmp 57) (.tmp 58), none, []⟩,
    ⟨none, .store 1 (.tmp 62) (.tmp 61), none, []⟩]
def k19x22 : AC := .mask 7881299347898817
def k19x21 : AC := .ops false [
    ⟨(some 63), .bin .other .add (.tmp 52) (.c (.int .i64 1)), none, []⟩,
    ⟨(some 52), .move (.tmp 63), none, []⟩]
def k19x18 : AC := .seq (.seq (.block 1 (.seq (.ops false [
     ⟨(some 54), .move (.tmp 52), none, []⟩,
     ⟨(some 55), .indexAddr 1 (.tmp 50) (.tmp 52), none, []⟩,
     ⟨(some 56), .load (.cell (.int .i64)) (.tmp 55), none, []⟩,
     ⟨(some 9), .move (.tmp 54), none, []⟩,
     ⟨(some 10), .move (.tmp 56), none, []⟩]) k19x23)) k19x22) k19x21
def k19x17 : AC := .seq (.seq (.cond (.tmp 53)
   (.skip)
   (.seq (.mask 449) k19x20)) k19x19) k19x18
def k19x16 : AC := .seq (.ops false [
    ⟨(some 53), .bin .other .lss (.tmp 52) (.tmp 51), none, []⟩]) k19x17
def k19x15 : AC := .mask 449
def k19x14 : AC := .seq (.block 0 (.loop 7881299347898817 449 k19x16)) k19x15
def k19x29 : AC := .ret
def k19x28 : AC := .seq (.mask 48) k19x29
def k19x27 : AC := .mask 449
def k19x26 : AC := .seq (.cond (.tmp 70)
   (.seq (.ops false [
      ⟨(some 4), .move (.c (.sl .nil 0)), none, []⟩,
      ⟨(some 5), .move (.c (.int .i64 16)), none, []⟩]) k19x28)
   (.skip)) k19x27
def k19x32 : AC := .ret
def k19x31 : AC := .seq (.mask 48) k19x32
def k19x30 : AC := .seq (.ops false [
    ⟨(some 88), .move (.tmp 8), none, []⟩,
    ⟨(some 4), .move (.tmp 88), none, []⟩,
    ⟨(some 5), .move (.c (.int .i64 0)), none, []⟩]) k19x31
def k19x25 : AC := .seq (.ops false [
    ⟨(some 71), .move (.tmp 0), none, []⟩,
    ⟨(some 72), .move (.tmp 0), none, []⟩,
    ⟨(some 73), .move (.tmp 0), none, []⟩,
    ⟨(some 74), .move (.tmp 0), none, []⟩,
    ⟨(some 75), .move (.tmp 6), none, []⟩,
    ⟨(some 76), .move (.tmp 7), none, []⟩,
    ⟨(some 77), .nilCheck (.tmp 76), none, []⟩,
    ⟨(some 78), .fieldAddr 1 (.tmp 77), none, []⟩,
    ⟨(some 79), .load (.cell (.int .i64)) (.tmp 78), none, []⟩,
    ⟨(some 80), .nilCheck (.tmp 71), none, []⟩,
    ⟨(some 81), .fieldAddr 5 (.tmp 80), none, []⟩,
    ⟨none, .store 1 (.tmp 81) (.tmp 75), none, []⟩,
    ⟨(some 82), .nilCheck (.tmp 72), none, []⟩,
    ⟨(some 83), .fieldAddr 6 (.tmp 82), none, []⟩,
    ⟨none, .store 1 (.tmp 83) (.tmp 79), none, []⟩,
    ⟨(some 84), .nilCheck (.tmp 73), none, []⟩,
    ⟨(some 85), .fieldAddr 3 (.tmp 84), none, []⟩,
    ⟨none, .store 1 (.tmp 85) (.c (.int .i64 1)), none, []⟩,
    ⟨(some 86), .nilCheck (.tmp 74), none, []⟩,
    ⟨(some 87), .fieldAddr 7 (.tmp 86), none, []⟩,
    ⟨none, .store 1 (.tmp 87) (.c (.sl .nil 0)), none, []⟩]) k19x30
def k19x24 : AC := .seq (.seq (.ops false [
    ⟨(some 67), .move (.tmp 7), none, []⟩,
    ⟨(some 68), .nilCheck (.tmp 67), none, []⟩,
    ⟨(some 69), .fieldAddr 5 (.tmp 68), none, []⟩,
    ⟨(some 70), .load (.cell .bool) (.tmp 69), none, []⟩]) k19x26) k19x25
def k19x13 : AC := .seq (.ops false [
    ⟨(some 64), .move (.tmp 7), none, []⟩,
    ⟨(some 65), .move (.tmp 6), none, []⟩,
    ⟨(some 66), .call 35 [(.tmp 64), (.tmp 65)] [] .opq, none, []⟩]) k19x24
def k19x12 : AC := .seq (.seq (.ops false [
    ⟨(some 50), .move (.tmp 1), none, []⟩,
    ⟨(some 51), .lenSl (.tmp 50), none, []⟩,
    ⟨(some 52), .move (.c (.int .i64 0)), none, []⟩]) k19x14) k19x13
def k19x11 : AC := .seq (.ops false [
    ⟨(some 47), .move (.tmp 1), none, []⟩,
    ⟨(some 48), .lenSl (.tmp 47), none, []⟩,
    ⟨(some 49), .makeSl [(.int .i64 0)] 8 (.tmp 48) (.tmp 48), none, []⟩,
    ⟨(some 8), .move (.tmp 49), none, []⟩]) k19x12
def k19x7 : AC := .seq (.ops false [
    ⟨(some 36), .move (.tmp 0), none, []⟩,
    ⟨(some 37), .move (.tmp 6), none, []⟩,
    ⟨(some 38), .move (.tmp 6), none, []⟩,
    ⟨(some 39), .move (.tmp 0), none, []⟩,
    ⟨(some 40), .nilCheck (.tmp 39), none, []⟩,
    ⟨(some 41), .fieldAddr 4 (.tmp 40), none, []⟩,
    ⟨(some 42), .load (.cell (.int .i64)) (.tmp 41), none, []⟩,
    ⟨(some 43), .bin .other .add (.tmp 38) (.tmp 42), none, []⟩,
    ⟨(some 44), .makeMap, none, []⟩,
    ⟨(some 45), .build [(.ptr none), (.int .i64 0), (.int .i64 0), (.map none), (.bool false), (.bool false)] [(0, 1, (.tmp 36)), (1, 1, (.tmp 37)), (2, 1, (.tmp 43)), (3, 1, (.tmp 44))], none, []⟩,
    ⟨(some 46), .boxH (.tmp 45), none, []⟩,
    ⟨(some 7), .move (.tmp 46), none, []⟩]) k19x11
def k19x6 : AC := .seq (.seq (.ops false [
    ⟨(some 18), .move (.tmp 0), none, []⟩,
    ⟨(some 19), .nilCheck (.tmp 18), none, []⟩,
    ⟨(some 20), .fieldAddr 5 (.tmp 19), none, []⟩,
    ⟨(some 21), .load (.cell (.int .i64)) (.tmp 20), none, []⟩,
    ⟨(some 22), .move (.tmp 0), none, []⟩,
    ⟨(some 23), .nilCheck (.tmp 22), none, []⟩,
    ⟨(some 24), .fieldAddr 2 (.tmp 23), none, []⟩,
    ⟨(some 25), .load (.cell (.int .i64)) (.tmp 24), none, []⟩,
    ⟨(some 26), .bin .other .eql (.tmp 21) (.tmp 25), none, []⟩]) k19x8) k19x7
def k19x1 : AC := .seq (.ops false [
    ⟨(some 14), .move (.tmp 0), none, []⟩,
    ⟨(some 15), .nilCheck (.tmp 14), none, []⟩,
    ⟨(some 16), .fieldAddr 2 (.tmp 15), none, []⟩,
    ⟨(some 17), .load (.cell (.int .i64)) (.tmp 16), none, []⟩,
    ⟨(some 6), .move (.tmp 17), none, []⟩]) k19x6
def k19x0 : AC := .seq (.seq (.ops false [
    ⟨(some 11), .move (.tmp 1), none, []⟩,
    ⟨(some 12), .lenSl (.tmp 11), none, []⟩,
    ⟨(some 13), .bin .other .gtr (.tmp 12) (.c (.int .i64 65536)), none, []⟩]) k19x2) k19x1
/-- (*provenance/heap.Heap).Major -/
def c19 : AFn := ⟨89, [.tmp 4, .tmp 5],
  .seq (.ops false [
    ⟨(some 4), .move (.c (.sl .nil 0)), none, []⟩,
    ⟨(some 5), .move (.c (.int .i64 0)), none, []⟩]) k19x0⟩
def S19xe0 (p0 : Option Ad) (i6 : Int) (p7 : Option Ad) (s8 : SA) (n8 : Nat) (h : Heap) : St := ⟨(.g [] true (.ptr p0) :: (rep 5 (.g [] true (.int .i64 i6) :: (.g [] true (.ptr p7) :: (.g [] true (.sl s8 n8) :: (rep 80 [])))))), h⟩
noncomputable def J19x10 (M : Mk) (C : Cal) (p0 : Option Ad) (s1 : SA) (n1 : Nat) (i6 : Int) (h : Heap) : Res := M (AV × Heap) (seqQ (evalE M C k19x7) (endQ [.tmp 4, .tmp 5])) (.g [] true (.ptr p0) :: (.g [] true (.sl s1 n1) :: (rep 4 (.g [] true (.int .i64 i6) :: (rep 82 []))))) h
noncomputable def Q19x16 (M : Mk) (C : Cal) : Kont (AV × Heap) := (blockQ 0 (seqQ (evalE M C k19x15) (seqQ (evalE M C k19x13) (endQ [.tmp 4, .tmp 5]))))
noncomputable def L19x16 (p0 : Option Ad) (i6 : Int) (p7 : Option Ad) (s8 : SA) (n8 : Nat) (s50 : SA) (n50 : Nat) (i51 : Int) (i52 : Int) (h : Heap) (Q : Kont R) : Option R := loopE (evalE M C k19x16) 7881299347898817 449 ⟨(.g [] true (.ptr p0) :: (rep 5 (.g [] true (.int .i64 i6) :: (.g [] true (.ptr p7) :: (.g [] true (.sl s8 n8) :: (rep 41 (.g [] true (.sl s50 n50) :: (.g [] true (.int .i64 i51) :: (.g [] true (.int .i64 i52) :: (rep 36 [])))))))))), h⟩ Q
theorem r19 (p0 : Option Ad) (s1 : SA) (n1 : Nat) (h : Heap) : runE M C c19 [(.ptr p0), (.sl s1 n1)] h = (
  letK ((decide ((65536 : Int) < ((n1 : Nat) : Int))) : Bool) fun b13 =>
  if b13 = true then
    (
    some (.tup [(.sl .nil 0), (.int .i64 2)], h)
    )
  else
    (
    atP p0 true fun a15 =>
    gI .i64 (ld1 h (Ad.add a15 2)) true fun i17 =>
    atP p0 true fun a19 =>
    gI .i64 (ld1 h (Ad.add a19 5)) true fun i21 =>
    atP p0 true fun a23 =>
    gI .i64 (ld1 h (Ad.add a23 2)) true fun i25 =>
    letK ((decide ((i21 : Int) = i25)) : Bool) fun b26 =>
    if b26 = true then
      (
      atP p0 true fun a28 =>
      gI .i64 (ld1 h (Ad.add a28 2)) true fun i30 =>
      atP p0 true fun a32 =>
      gI .i64 (ld1 h (Ad.add a32 4)) true fun i34 =>
      letK ((IntKind.wrap .i64 (i30 + i34)) : Int) fun i35 =>
      J19x10 M C p0 s1 n1 i35 h
      )
    else
      (
      J19x10 M C p0 s1 n1 i17 h
      )
    )
  ) := by kernel_rfl
theorem cf19 : cFn Try.prog 19 = some c19 := by kernel_rfl
theorem e19 (p0 : Option Ad) (s1 : SA) (n1 : Nat) (h : Heap) : E 19 [(.ptr p0), (.sl s1 n1)] h = (
  letK ((decide ((65536 : Int) < ((n1 : Nat) : Int))) : Bool) fun b13 =>
  if b13 = true then
    (
    some (.tup [(.sl .nil 0), (.int .i64 2)], h)
    )
  else
    (
    atP p0 true fun a15 =>
    gI .i64 (ld1 h (Ad.add a15 2)) true fun i17 =>
    atP p0 true fun a19 =>
    gI .i64 (ld1 h (Ad.add a19 5)) true fun i21 =>
    atP p0 true fun a23 =>
    gI .i64 (ld1 h (Ad.add a23 2)) true fun i25 =>
    letK ((decide ((i21 : Int) = i25)) : Bool) fun b26 =>
    if b26 = true then
      (
      atP p0 true fun a28 =>
      gI .i64 (ld1 h (Ad.add a28 2)) true fun i30 =>
      atP p0 true fun a32 =>
      gI .i64 (ld1 h (Ad.add a32 4)) true fun i34 =>
      letK ((IntKind.wrap .i64 (i30 + i34)) : Int) fun i35 =>
      J19x10 mk0 E p0 s1 n1 i35 h
      )
    else
      (
      J19x10 mk0 E p0 s1 n1 i17 h
      )
    )
  ) := (EV_eq (P := Try.prog) (T := T0) rfl cf19 [(.ptr p0), (.sl s1 n1)] h).trans (r19 mk0 E p0 s1 n1 h)
theorem J19x10xaux (M : Mk) (C : Cal) (p0 : Option Ad) (s1 : SA) (n1 : Nat) (i6 : Int) (h : Heap) : (forceK tk (.g [] true (.ptr p0) :: (.g [] true (.sl s1 n1) :: (rep 4 (.g [] true (.int .i64 i6) :: (rep 82 []))))) fun e => (seqQ (evalE M C k19x7) (endQ [.tmp 4, .tmp 5])) .normal ⟨e, h⟩) = (
  atP p0 true fun a40 =>
  gI .i64 (ld1 h (Ad.add a40 4)) true fun i42 =>
  letK ((IntKind.wrap .i64 (i6 + i42)) : Int) fun i43 =>
  newK h (.map []) fun h_2 =>
  newK h_2 (.cells [(.ptr p0), (.int .i64 i6), (.int .i64 i43), (.map (some (List.length h))), (.bool false), (.bool false)] .fix 0) fun h_3 =>
  chk ((0 : Int) ≤ ((n1 : Nat) : Int) ∧ (((n1 : Nat) : Int) : Int) ≤ ((n1 : Nat) : Int) ∧ ((n1 : Nat) : Int) * ((8 : Nat) : Int) ≤ 70368744177664) <|
  newK h_3 (.cells (repl (Int.toNat ((n1 : Nat) : Int)) [(.int .i64 0)]) (.grow 1) 0) fun h_4 =>
  letK ((Int.toNat ((n1 : Nat) : Int)) : Nat) fun n49 =>
  L19x16 M C p0 i6 (some ⟨List.length h_2, 0, 0⟩) (.pos ⟨List.length h_3, 0, 0⟩) n49 s1 n1 ((n1 : Nat) : Int) 0 h_4 (Q19x16 M C)
  ) := by kernel_rfl
theorem J19x10xeq (C : Cal) (p0 : Option Ad) (s1 : SA) (n1 : Nat) (i6 : Int) (h : Heap) : J19x10 mk0 C p0 s1 n1 i6 h = (
  atP p0 true fun a40 =>
  gI .i64 (ld1 h (Ad.add a40 4)) true fun i42 =>
  letK ((IntKind.wrap .i64 (i6 + i42)) : Int) fun i43 =>
  newK h (.map []) fun h_2 =>
  newK h_2 (.cells [(.ptr p0), (.int .i64 i6), (.int .i64 i43), (.map (some (List.length h))), (.bool false), (.bool false)] .fix 0) fun h_3 =>
  chk ((0 : Int) ≤ ((n1 : Nat) : Int) ∧ (((n1 : Nat) : Int) : Int) ≤ ((n1 : Nat) : Int) ∧ ((n1 : Nat) : Int) * ((8 : Nat) : Int) ≤ 70368744177664) <|
  newK h_3 (.cells (repl (Int.toNat ((n1 : Nat) : Int)) [(.int .i64 0)]) (.grow 1) 0) fun h_4 =>
  letK ((Int.toNat ((n1 : Nat) : Int)) : Nat) fun n49 =>
  L19x16 mk0 C p0 i6 (some ⟨List.length h_2, 0, 0⟩) (.pos ⟨List.length h_3, 0, 0⟩) n49 s1 n1 ((n1 : Nat) : Int) 0 h_4 (Q19x16 mk0 C)
  ) := join_eqn (seqQ (evalE mk0 C k19x7) (endQ [.tmp 4, .tmp 5])) (.g [] true (.ptr p0) :: (.g [] true (.sl s1 n1) :: (rep 4 (.g [] true (.int .i64 i6) :: (rep 82 []))))) h (J19x10xaux mk0 C p0 s1 n1 i6 h)
theorem L19x16xaux (p0 : Option Ad) (i6 : Int) (p7 : Option Ad) (s8 : SA) (n8 : Nat) (s50 : SA) (n50 : Nat) (i51 : Int) (i52 : Int) (h : Heap) (Q : Kont R) : (restrF 7881299347898817 ⟨(.g [] true (.ptr p0) :: (rep 5 (.g [] true (.int .i64 i6) :: (.g [] true (.ptr p7) :: (.g [] true (.sl s8 n8) :: (rep 41 (.g [] true (.sl s50 n50) :: (.g [] true (.int .i64 i51) :: (.g [] true (.int .i64 i52) :: (rep 36 [])))))))))), h⟩ fun σ => evalE M C k19x16 σ (roundQ M C k19x16 7881299347898817 449 Q)) = (
  letK ((decide ((i52 : Int) < i51)) : Bool) fun b53 =>
  if b53 = true then
    (
    chk (true = true → (0 : Int) ≤ i52 ∧ (i52 : Int) < ((n50 : Nat) : Int)) <|
    atP (adP s50) true fun a55 =>
    gI .i64 (ld1 h (Ad.add a55 (Int.toNat i52 * 1))) true fun i56 =>
    (C 34 [(.ptr p7), (.int .i64 i56)] h).bind fun r61 =>
    gI .i64 (some r61.1) true fun i61 =>
    chk (true = true → (0 : Int) ≤ i52 ∧ (i52 : Int) < ((n8 : Nat) : Int)) <|
    atP (adP s8) true fun a62 =>
    (st1 r61.2 (Ad.add a62 (Int.toNat i52 * 1)) (.int .i64 i61)).bind fun h_2 =>
    letK ((IntKind.wrap .i64 (i52 + 1)) : Int) fun i63 =>
    L19x16 M C p0 i6 p7 s8 n8 s50 n50 i51 i63 h_2 Q
    )
  else
    (
    Q (.exit 0) (S19xe0 p0 i6 p7 s8 n8 h)
    )
  ) := by kernel_rfl
theorem L19x16xeq (p0 : Option Ad) (i6 : Int) (p7 : Option Ad) (s8 : SA) (n8 : Nat) (s50 : SA) (n50 : Nat) (i51 : Int) (i52 : Int) (h : Heap) (Q : Kont R) : L19x16 mk0 C p0 i6 p7 s8 n8 s50 n50 i51 i52 h Q = (
  letK ((decide ((i52 : Int) < i51)) : Bool) fun b53 =>
  if b53 = true then
    (
    chk (true = true → (0 : Int) ≤ i52 ∧ (i52 : Int) < ((n50 : Nat) : Int)) <|
    atP (adP s50) true fun a55 =>
    gI .i64 (ld1 h (Ad.add a55 (Int.toNat i52 * 1))) true fun i56 =>
    (C 34 [(.ptr p7), (.int .i64 i56)] h).bind fun r61 =>
    gI .i64 (some r61.1) true fun i61 =>
    chk (true = true → (0 : Int) ≤ i52 ∧ (i52 : Int) < ((n8 : Nat) : Int)) <|
    atP (adP s8) true fun a62 =>
    (st1 r61.2 (Ad.add a62 (Int.toNat i52 * 1)) (.int .i64 i61)).bind fun h_2 =>
    letK ((IntKind.wrap .i64 (i52 + 1)) : Int) fun i63 =>
    L19x16 mk0 C p0 i6 p7 s8 n8 s50 n50 i51 i63 h_2 Q
    )
  else
    (
    Q (.exit 0) (S19xe0 p0 i6 p7 s8 n8 h)
    )
  ) := loop_eqn C k19x16 7881299347898817 449 (.g [] true (.ptr p0) :: (rep 5 (.g [] true (.int .i64 i6) :: (.g [] true (.ptr p7) :: (.g [] true (.sl s8 n8) :: (rep 41 (.g [] true (.sl s50 n50) :: (.g [] true (.int .i64 i51) :: (.g [] true (.int .i64 i52) :: (rep 36 [])))))))))) h Q (by kernel_rfl) (L19x16xaux mk0 C p0 i6 p7 s8 n8 s50 n50 i51 i52 h Q)
theorem X19x16xe0 (M : Mk) (C : Cal) (p0 : Option Ad) (i6 : Int) (p7 : Option Ad) (s8 : SA) (n8 : Nat) (h : Heap) : Q19x16 M C (.exit 0) (S19xe0 p0 i6 p7 s8 n8 h) = (
  (C 35 [(.ptr p7), (.int .i64 i6)] h).bind fun r66 =>
  gT 0 r66.1 true fun u66 =>
  atP p7 true fun a68 =>
  gB (ld1 r66.2 (Ad.add a68 5)) true fun b70 =>
  if b70 = true then
    (
    some (.tup [(.sl .nil 0), (.int .i64 16)], r66.2)
    )
  else
    (
    atP p7 true fun a77 =>
    gI .i64 (ld1 r66.2 (Ad.add a77 1)) true fun i79 =>
    atP p0 true fun a80 =>
    (st1 r66.2 (Ad.add a80 5) (.int .i64 i6)).bind fun h_2 =>
    atP p0 true fun a82 =>
    (st1 h_2 (Ad.add a82 6) (.int .i64 i79)).bind fun h_3 =>
    atP p0 true fun a84 =>
    (st1 h_3 (Ad.add a84 3) (.int .i64 1)).bind fun h_4 =>
    atP p0 true fun a86 =>
    (st1 h_4 (Ad.add a86 7) (.sl .nil 0)).bind fun h_5 =>
    some (.tup [(.sl s8 n8), (.int .i64 0)], h_5)
    )
  ) := by kernel_rfl
def k18x9 : AC := .exit 0
def k18x8 : AC := .mask 98565
def k18x21 : AC := .exit 2
def k18x20 : AC := .mask 469860613
def k18x27 : AC := .join 469860613
def k18x26 : AC := .seq (.cond (.tmp 45)
   (.ops false [
      ⟨(some 46), .move (.tmp 11), none, []⟩,
      ⟨(some 47), .indexAddr 1 (.tmp 46) (.c (.int .i64 0)), none, []⟩,
      ⟨(some 48), .load (.cell (.int .i64)) (.tmp 47), none, []⟩,
      ⟨(some 8), .move (.tmp 48), none, []⟩])
   (.skip)) k18x27
def k18x25 : AC := .seq (.ops true [
    ⟨(some 39), .move (.tmp 12), none, []⟩,
    ⟨(some 40), .bin .other .eql (.tmp 39) (.c (.int .i64 0)), none, []⟩,
    ⟨(some 41), .move (.tmp 40), none, []⟩,
    ⟨(some 42), .move (.tmp 11), (some (41, true)), []⟩,
    ⟨(some 43), .lenSl (.tmp 42), (some (41, true)), []⟩,
    ⟨(some 44), .bin .other .eql (.tmp 43) (.c (.int .i64 1)), (some (41, true)), []⟩,
    ⟨(some 45), .pick (.tmp 41) (.tmp 44) (.c (.bool false)), none, []⟩]) k18x26
def k18x24 : AC := .seq (.ops false [
    ⟨(some 33), .move (.tmp 10), none, []⟩,
    ⟨(some 34), .move (.tmp 8), none, []⟩,
    ⟨(some 35), .buildSl [(.int .i64 0)] 1 [(0, (.tmp 34))], none, []⟩,
    ⟨(some 36), .callV (.tmp 33) [(.tmp 35)] [(.cell .sl), (.cell (.int .i64))] .opq, none, []⟩,
    ⟨(some 32), .move (.tmp 36), none, []⟩,
    ⟨(some 37), .extract (.tmp 32) 0, none, []⟩,
    ⟨(some 38), .extract (.tmp 32) 1, none, []⟩,
    ⟨(some 11), .move (.tmp 37), none, []⟩,
    ⟨(some 12), .move (.tmp 38), none, []⟩]) k18x25
def k18x23 : AC := .mask 469860613
def k18x22 : AC := .ops false [
    ⟨(some 49), .bin .other .add (.tmp 28) (.c (.int .i64 1)), none, []⟩,
    ⟨(some 28), .move (.tmp 49), none, []⟩]
def k18x19 : AC := .seq (.seq (.block 3 (.seq (.ops false [
     ⟨(some 30), .indexAddr 1 (.tmp 26) (.tmp 28), none, []⟩,
     ⟨(some 31), .load (.cell .fn) (.tmp 30), none, []⟩,
     ⟨(some 10), .move (.tmp 31), none, []⟩]) k18x24)) k18x23) k18x22
def k18x18 : AC := .seq (.seq (.cond (.tmp 29)
   (.skip)
   (.seq (.mask 98565) k18x21)) k18x20) k18x19
def k18x17 : AC := .seq (.ops false [
    ⟨(some 29), .bin .other .lss (.tmp 28) (.tmp 27), none, []⟩]) k18x18
def k18x16 : AC := .mask 98565
def k18x15 : AC := .seq (.block 2 (.loop 469860613 98565 k18x17)) k18x16
def k18x14 : AC := .join 98565
def k18x13 : AC := .seq (.cond (.tmp 21)
   (.seq (.ops false [
      ⟨(some 22), .move (.tmp 0), none, []⟩,
      ⟨(some 23), .makeFn 20 [(.tmp 22)] [], none, []⟩,
      ⟨(some 24), .move (.tmp 0), none, []⟩,
      ⟨(some 25), .makeFn 19 [(.tmp 24)] [], none, []⟩,
      ⟨(some 26), .buildSl [.nilFn, .nilFn] 1 [(0, (.tmp 23)), (1, (.tmp 25))], none, []⟩,
      ⟨(some 27), .lenSl (.tmp 26), none, []⟩,
      ⟨(some 28), .move (.c (.int .i64 0)), none, []⟩]) k18x15)
   (.skip)) k18x14
def k18x35 : AC := .ret
def k18x34 : AC := .seq (.mask 192) k18x35
def k18x33 : AC := .mask 106501
def k18x32 : AC := .seq (.cond (.tmp 58)
   (.seq (.ops false [
      ⟨(some 59), .move (.tmp 8), none, []⟩,
      ⟨(some 6), .move (.tmp 59), none, []⟩,
      ⟨(some 7), .move (.c (.bool false)), none, []⟩]) k18x34)
   (.skip)) k18x33
def k18x31 : AC := .ops false [
    ⟨(some 60), .move (.tmp 13), none, []⟩,
    ⟨(some 8), .move (.tmp 60), none, []⟩]
def k18x30 : AC := .seq (.seq (.ops false [
    ⟨(some 57), .move (.tmp 14), none, []⟩,
    ⟨(some 58), .bin .other .neq (.tmp 57) (.c (.int .i64 0)), none, []⟩]) k18x32) k18x31
def k18x12 : AC := .seq (.ops false [
    ⟨(some 51), .move (.tmp 0), none, []⟩,
    ⟨(some 52), .move (.tmp 2), none, []⟩,
    ⟨(some 53), .move (.tmp 8), none, []⟩,
    ⟨(some 54), .call 14 [(.tmp 51), (.c (.int .i64 1)), (.tmp 52), (.tmp 53)] [(.cell (.int .i64)), (.cell (.int .i64))] .opq, none, []⟩,
    ⟨(some 50), .move (.tmp 54), none, []⟩,
    ⟨(some 55), .extract (.tmp 50) 0, none, []⟩,
    ⟨(some 56), .extract (.tmp 50) 1, none, []⟩,
    ⟨(some 13), .move (.tmp 55), none, []⟩,
    ⟨(some 14), .move (.tmp 56), none, []⟩]) k18x30
def k18x11 : AC := .mask 98565
def k18x10 : AC := .ops false [
    ⟨(some 61), .bin .other .add (.tmp 16) (.c (.int .i64 1)), none, []⟩,
    ⟨(some 16), .move (.tmp 61), none, []⟩]
def k18x7 : AC := .seq (.seq (.block 1 (.seq (.seq (.ops false [
     ⟨(some 18), .move (.tmp 0), none, []⟩,
     ⟨(some 19), .move (.tmp 2), none, []⟩,
     ⟨(some 20), .call 13 [(.tmp 18), (.tmp 19)] [(.cell .bool)] (.bool false), none, []⟩,
     ⟨(some 21), .un .not (.tmp 20), none, []⟩]) k18x13) k18x12)) k18x11) k18x10
def k18x6 : AC := .seq (.seq (.cond (.tmp 17)
   (.skip)
   (.seq (.mask 256) k18x9)) k18x8) k18x7
def k18x5 : AC := .seq (.ops false [
    ⟨(some 17), .bin .other .lss (.tmp 16) (.tmp 15), none, []⟩]) k18x6
def k18x4 : AC := .mask 256
def k18x3 : AC := .seq (.block 0 (.loop 98565 256 k18x5)) k18x4
def k18x37 : AC := .ret
def k18x36 : AC := .seq (.mask 192) k18x37
def k18x2 : AC := .seq (.ops false [
    ⟨(some 62), .move (.tmp 8), none, []⟩,
    ⟨(some 6), .move (.tmp 62), none, []⟩,
    ⟨(some 7), .move (.c (.bool true)), none, []⟩]) k18x36
def k18x1 : AC := .seq (.seq (.ops false [
    ⟨(some 15), .move (.tmp 1), none, []⟩,
    ⟨(some 16), .move (.c (.int .i64 0)), none, []⟩]) k18x3) k18x2
def k18x0 : AC := .seq (.ops false [
    ⟨(some 8), .move (.c (.int .i64 1)), none, []⟩]) k18x1
/-- provenance/provenancekeep4.chain -/
def c18 : AFn := ⟨63, [.tmp 6, .tmp 7],
  .seq (.ops false [
    ⟨(some 6), .move (.c (.int .i64 0)), none, []⟩,
    ⟨(some 7), .move (.c (.bool false)), none, []⟩]) k18x0⟩
def S18xe0 (i8 : Int) (h : Heap) : St := ⟨(rep 8 (.g [] true (.int .i64 i8) :: (rep 54 []))), h⟩
def S18xe2 (p0 : Option Ad) (i2 : Int) (i8 : Int) (i15 : Int) (i16 : Int) (h : Heap) : St := ⟨(.g [] true (.ptr p0) :: (.any :: (.g [] true (.int .i64 i2) :: (rep 5 (.g [] true (.int .i64 i8) :: (rep 6 (.g [] true (.int .i64 i15) :: (.g [] true (.int .i64 i16) :: (rep 46 []))))))))), h⟩
def S18xr (i6 : Int) (b7 : Bool) (h : Heap) : St := ⟨(rep 6 (.g [] true (.int .i64 i6) :: (.g [] true (.bool b7) :: (rep 55 [])))), h⟩
noncomputable def Q18x5 (M : Mk) (C : Cal) : Kont (AV × Heap) := (blockQ 0 (seqQ (evalE M C k18x4) (seqQ (evalE M C k18x2) (endQ [.tmp 6, .tmp 7]))))
noncomputable def L18x5 (p0 : Option Ad) (i2 : Int) (i8 : Int) (i15 : Int) (i16 : Int) (h : Heap) (Q : Kont R) : Option R := loopE (evalE M C k18x5) 98565 256 ⟨(.g [] true (.ptr p0) :: (.any :: (.g [] true (.int .i64 i2) :: (rep 5 (.g [] true (.int .i64 i8) :: (rep 6 (.g [] true (.int .i64 i15) :: (.g [] true (.int .i64 i16) :: (rep 46 []))))))))), h⟩ Q
noncomputable def Q18x17 (M : Mk) (C : Cal) (Q : Kont R) : Kont R := (blockQ 2 (seqQ (evalE M C k18x16) (seqQ (evalE M C k18x14) (seqQ (evalE M C k18x12) (blockQ 1 (seqQ (evalE M C k18x11) (seqQ (evalE M C k18x10) (roundQ M C k18x5 98565 256 Q))))))))
noncomputable def L18x17 (p0 : Option Ad) (i2 : Int) (i8 : Int) (i15 : Int) (i16 : Int) (s26 : SA) (n26 : Nat) (i27 : Int) (i28 : Int) (h : Heap) (Q : Kont R) : Option R := loopE (evalE M C k18x17) 469860613 98565 ⟨(.g [] true (.ptr p0) :: (.any :: (.g [] true (.int .i64 i2) :: (rep 5 (.g [] true (.int .i64 i8) :: (rep 6 (.g [] true (.int .i64 i15) :: (.g [] true (.int .i64 i16) :: (rep 9 (.g [] true (.sl s26 n26) :: (.g [] true (.int .i64 i27) :: (.g [] true (.int .i64 i28) :: (rep 34 []))))))))))))), h⟩ Q
noncomputable def J18x29 (M : Mk) (C : Cal) (p0 : Option Ad) (i2 : Int) (i8 : Int) (i15 : Int) (i16 : Int) (h : Heap) (Q : Kont R) : Option R := M R (seqQ (evalE M C k18x12) (blockQ 1 (seqQ (evalE M C k18x11) (seqQ (evalE M C k18x10) (roundQ M C k18x5 98565 256 Q))))) (.g [] true (.ptr p0) :: (.any :: (.g [] true (.int .i64 i2) :: (rep 5 (.g [] true (.int .i64 i8) :: (rep 6 (.g [] true (.int .i64 i15) :: (.g [] true (.int .i64 i16) :: (rep 46 []))))))))) h
noncomputable def J18x28 (M : Mk) (C : Cal) (p0 : Option Ad) (i2 : Int) (i8 : Int) (i15 : Int) (i16 : Int) (s26 : SA) (n26 : Nat) (i27 : Int) (i28 : Int) (h : Heap) (Q : Kont R) : Option R := M R (blockQ 3 (seqQ (evalE M C k18x23) (seqQ (evalE M C k18x22) (roundQ M C k18x17 469860613 98565 Q)))) (.g [] true (.ptr p0) :: (.any :: (.g [] true (.int .i64 i2) :: (rep 5 (.g [] true (.int .i64 i8) :: (rep 6 (.g [] true (.int .i64 i15) :: (.g [] true (.int .i64 i16) :: (rep 9 (.g [] true (.sl s26 n26) :: (.g [] true (.int .i64 i27) :: (.g [] true (.int .i64 i28) :: (rep 34 []))))))))))))) h
theorem r18 (p0 : Option Ad) (i1 : Int) (i2 : Int) (h : Heap) : runE M C c18 [(.ptr p0), (.int .i64 i1), (.int .i64 i2)] h = (
  L18x5 M C p0 i2 1 i1 0 h (Q18x5 M C)
  ) := by kernel_rfl
theorem cf18 : cFn Try.prog 18 = some c18 := by kernel_rfl
theorem e18 (p0 : Option Ad) (i1 : Int) (i2 : Int) (h : Heap) : E 18 [(.ptr p0), (.int .i64 i1), (.int .i64 i2)] h = (
  L18x5 mk0 E p0 i2 1 i1 0 h (Q18x5 mk0 E)
  ) := (EV_eq (P := Try.prog) (T := T0) rfl cf18 [(.ptr p0), (.int .i64 i1), (.int .i64 i2)] h).trans (r18 mk0 E p0 i1 i2 h)
theorem L18x5xaux (p0 : Option Ad) (i2 : Int) (i8 : Int) (i15 : Int) (i16 : Int) (h : Heap) (Q : Kont R) : (restrF 98565 ⟨(.g [] true (.ptr p0) :: (.any :: (.g [] true (.int .i64 i2) :: (rep 5 (.g [] true (.int .i64 i8) :: (rep 6 (.g [] true (.int .i64 i15) :: (.g [] true (.int .i64 i16) :: (rep 46 []))))))))), h⟩ fun σ => evalE M C k18x5 σ (roundQ M C k18x5 98565 256 Q)) = (
  letK ((decide ((i16 : Int) < i15)) : Bool) fun b17 =>
  if b17 = true then
    (
    (C 13 [(.ptr p0), (.int .i64 i2)] h).bind fun r20 =>
    gB (some r20.1) true fun b20 =>
    if (!b20) = true then
      (
      newK r20.2 (.cells [(.fn 20 [(.ptr p0)] []), (.fn 19 [(.ptr p0)] [])] (.grow 1) 0) fun h_2 =>
      L18x17 M C p0 i2 i8 i15 i16 (.pos ⟨List.length r20.2, 0, 0⟩) 2 ((2 : Nat) : Int) 0 h_2 (Q18x17 M C Q)
      )
    else
      (
      J18x29 M C p0 i2 i8 i15 i16 r20.2 Q
      )
    )
  else
    (
    Q (.exit 0) (S18xe0 i8 h)
    )
  ) := by kernel_rfl
theorem L18x5xeq (p0 : Option Ad) (i2 : Int) (i8 : Int) (i15 : Int) (i16 : Int) (h : Heap) (Q : Kont R) : L18x5 mk0 C p0 i2 i8 i15 i16 h Q = (
  letK ((decide ((i16 : Int) < i15)) : Bool) fun b17 =>
  if b17 = true then
    (
    (C 13 [(.ptr p0), (.int .i64 i2)] h).bind fun r20 =>
    gB (some r20.1) true fun b20 =>
    if (!b20) = true then
      (
      newK r20.2 (.cells [(.fn 20 [(.ptr p0)] []), (.fn 19 [(.ptr p0)] [])] (.grow 1) 0) fun h_2 =>
      L18x17 mk0 C p0 i2 i8 i15 i16 (.pos ⟨List.length r20.2, 0, 0⟩) 2 ((2 : Nat) : Int) 0 h_2 (Q18x17 mk0 C Q)
      )
    else
      (
      J18x29 mk0 C p0 i2 i8 i15 i16 r20.2 Q
      )
    )
  else
    (
    Q (.exit 0) (S18xe0 i8 h)
    )
  ) := loop_eqn C k18x5 98565 256 (.g [] true (.ptr p0) :: (.any :: (.g [] true (.int .i64 i2) :: (rep 5 (.g [] true (.int .i64 i8) :: (rep 6 (.g [] true (.int .i64 i15) :: (.g [] true (.int .i64 i16) :: (rep 46 []))))))))) h Q (by kernel_rfl) (L18x5xaux mk0 C p0 i2 i8 i15 i16 h Q)
theorem L18x17xaux (p0 : Option Ad) (i2 : Int) (i8 : Int) (i15 : Int) (i16 : Int) (s26 : SA) (n26 : Nat) (i27 : Int) (i28 : Int) (h : Heap) (Q : Kont R) : (restrF 469860613 ⟨(.g [] true (.ptr p0) :: (.any :: (.g [] true (.int .i64 i2) :: (rep 5 (.g [] true (.int .i64 i8) :: (rep 6 (.g [] true (.int .i64 i15) :: (.g [] true (.int .i64 i16) :: (rep 9 (.g [] true (.sl s26 n26) :: (.g [] true (.int .i64 i27) :: (.g [] true (.int .i64 i28) :: (rep 34 []))))))))))))), h⟩ fun σ => evalE M C k18x17 σ (roundQ M C k18x17 469860613 98565 Q)) = (
  letK ((decide ((i28 : Int) < i27)) : Bool) fun b29 =>
  if b29 = true then
    (
    chk (true = true → (0 : Int) ≤ i28 ∧ (i28 : Int) < ((n26 : Nat) : Int)) <|
    atP (adP s26) true fun a30 =>
    gF (ld1 h (Ad.add a30 (Int.toNat i28 * 1))) true fun v31 =>
    newK h (.cells [(.int .i64 i8)] (.grow 1) 0) fun h_2 =>
    fnK v31 fun f36 a36 c36 =>
    (C f36 (a36 ++ [(.sl (.pos ⟨List.length h, 0, 0⟩) 1)] ++ c36) h_2).bind fun r36 =>
    gT 2 r36.1 true fun u36 =>
    gL (some (List.getD u36 0 .opq)) true fun s36x0 n36x0 =>
    gI .i64 (some (List.getD u36 1 .opq)) true fun i36x1 =>
    letK ((decide ((i36x1 : Int) = 0)) : Bool) fun b40 =>
    letK ((decide ((((n36x0 : Nat) : Int) : Int) = 1)) : Bool) fun b44 =>
    letK ((if b40 = true then b44 else false) : Bool) fun b45 =>
    if b45 = true then
      (
      chk (true = true → (0 : Int) ≤ 0 ∧ (0 : Int) < ((n36x0 : Nat) : Int)) <|
      atP (adP s36x0) true fun a47 =>
      gI .i64 (ld1 r36.2 (Ad.add a47 (Int.toNat 0 * 1))) true fun i48 =>
      J18x28 M C p0 i2 i48 i15 i16 s26 n26 i27 i28 r36.2 Q
      )
    else
      (
      J18x28 M C p0 i2 i8 i15 i16 s26 n26 i27 i28 r36.2 Q
      )
    )
  else
    (
    Q (.exit 2) (S18xe2 p0 i2 i8 i15 i16 h)
    )
  ) := by kernel_rfl
theorem L18x17xeq (p0 : Option Ad) (i2 : Int) (i8 : Int) (i15 : Int) (i16 : Int) (s26 : SA) (n26 : Nat) (i27 : Int) (i28 : Int) (h : Heap) (Q : Kont R) : L18x17 mk0 C p0 i2 i8 i15 i16 s26 n26 i27 i28 h Q = (
  letK ((decide ((i28 : Int) < i27)) : Bool) fun b29 =>
  if b29 = true then
    (
    chk (true = true → (0 : Int) ≤ i28 ∧ (i28 : Int) < ((n26 : Nat) : Int)) <|
    atP (adP s26) true fun a30 =>
    gF (ld1 h (Ad.add a30 (Int.toNat i28 * 1))) true fun v31 =>
    newK h (.cells [(.int .i64 i8)] (.grow 1) 0) fun h_2 =>
    fnK v31 fun f36 a36 c36 =>
    (C f36 (a36 ++ [(.sl (.pos ⟨List.length h, 0, 0⟩) 1)] ++ c36) h_2).bind fun r36 =>
    gT 2 r36.1 true fun u36 =>
    gL (some (List.getD u36 0 .opq)) true fun s36x0 n36x0 =>
    gI .i64 (some (List.getD u36 1 .opq)) true fun i36x1 =>
    letK ((decide ((i36x1 : Int) = 0)) : Bool) fun b40 =>
    letK ((decide ((((n36x0 : Nat) : Int) : Int) = 1)) : Bool) fun b44 =>
    letK ((if b40 = true then b44 else false) : Bool) fun b45 =>
    if b45 = true then
      (
      chk (true = true → (0 : Int) ≤ 0 ∧ (0 : Int) < ((n36x0 : Nat) : Int)) <|
      atP (adP s36x0) true fun a47 =>
      gI .i64 (ld1 r36.2 (Ad.add a47 (Int.toNat 0 * 1))) true fun i48 =>
      J18x28 mk0 C p0 i2 i48 i15 i16 s26 n26 i27 i28 r36.2 Q
      )
    else
      (
      J18x28 mk0 C p0 i2 i8 i15 i16 s26 n26 i27 i28 r36.2 Q
      )
    )
  else
    (
    Q (.exit 2) (S18xe2 p0 i2 i8 i15 i16 h)
    )
  ) := loop_eqn C k18x17 469860613 98565 (.g [] true (.ptr p0) :: (.any :: (.g [] true (.int .i64 i2) :: (rep 5 (.g [] true (.int .i64 i8) :: (rep 6 (.g [] true (.int .i64 i15) :: (.g [] true (.int .i64 i16) :: (rep 9 (.g [] true (.sl s26 n26) :: (.g [] true (.int .i64 i27) :: (.g [] true (.int .i64 i28) :: (rep 34 []))))))))))))) h Q (by kernel_rfl) (L18x17xaux mk0 C p0 i2 i8 i15 i16 s26 n26 i27 i28 h Q)
theorem J18x29xaux (M : Mk) (C : Cal) (p0 : Option Ad) (i2 : Int) (i8 : Int) (i15 : Int) (i16 : Int) (h : Heap) (Q : Kont R) : (forceK tk (.g [] true (.ptr p0) :: (.any :: (.g [] true (.int .i64 i2) :: (rep 5 (.g [] true (.int .i64 i8) :: (rep 6 (.g [] true (.int .i64 i15) :: (.g [] true (.int .i64 i16) :: (rep 46 []))))))))) fun e => (seqQ (evalE M C k18x12) (blockQ 1 (seqQ (evalE M C k18x11) (seqQ (evalE M C k18x10) (roundQ M C k18x5 98565 256 Q))))) .normal ⟨e, h⟩) = (
  (C 14 [(.ptr p0), (.int .i64 1), (.int .i64 i2), (.int .i64 i8)] h).bind fun r54 =>
  gT 2 r54.1 true fun u54 =>
  gI .i64 (some (List.getD u54 0 .opq)) true fun i54x0 =>
  gI .i64 (some (List.getD u54 1 .opq)) true fun i54x1 =>
  letK ((!decide ((i54x1 : Int) = 0)) : Bool) fun b58 =>
  if b58 = true then
    (
    Q .ret (S18xr i8 false r54.2)
    )
  else
    (
    letK ((IntKind.wrap .i64 (i16 + 1)) : Int) fun i61 =>
    L18x5 M C p0 i2 i54x0 i15 i61 r54.2 Q
    )
  ) := by kernel_rfl
theorem J18x29xeq (C : Cal) (p0 : Option Ad) (i2 : Int) (i8 : Int) (i15 : Int) (i16 : Int) (h : Heap) (Q : Kont R) : J18x29 mk0 C p0 i2 i8 i15 i16 h Q = (
  (C 14 [(.ptr p0), (.int .i64 1), (.int .i64 i2), (.int .i64 i8)] h).bind fun r54 =>
  gT 2 r54.1 true fun u54 =>
  gI .i64 (some (List.getD u54 0 .opq)) true fun i54x0 =>
  gI .i64 (some (List.getD u54 1 .opq)) true fun i54x1 =>
  letK ((!decide ((i54x1 : Int) = 0)) : Bool) fun b58 =>
  if b58 = true then
    (
    Q .ret (S18xr i8 false r54.2)
    )
  else
    (
    letK ((IntKind.wrap .i64 (i16 + 1)) : Int) fun i61 =>
    L18x5 mk0 C p0 i2 i54x0 i15 i61 r54.2 Q
    )
  ) := join_eqn (seqQ (evalE mk0 C k18x12) (blockQ 1 (seqQ (evalE mk0 C k18x11) (seqQ (evalE mk0 C k18x10) (roundQ mk0 C k18x5 98565 256 Q))))) (.g [] true (.ptr p0) :: (.any :: (.g [] true (.int .i64 i2) :: (rep 5 (.g [] true (.int .i64 i8) :: (rep 6 (.g [] true (.int .i64 i15) :: (.g [] true (.int .i64 i16) :: (rep 46 []))))))))) h (J18x29xaux mk0 C p0 i2 i8 i15 i16 h Q)
theorem J18x28xaux (M : Mk) (C : Cal) (p0 : Option Ad) (i2 : Int) (i8 : Int) (i15 : Int) (i16 : Int) (s26 : SA) (n26 : Nat) (i27 : Int) (i28 : Int) (h : Heap) (Q : Kont R) : (forceK tk (.g [] true (.ptr p0) :: (.any :: (.g [] true (.int .i64 i2) :: (rep 5 (.g [] true (.int .i64 i8) :: (rep 6 (.g [] true (.int .i64 i15) :: (.g [] true (.int .i64 i16) :: (rep 9 (.g [] true (.sl s26 n26) :: (.g [] true (.int .i64 i27) :: (.g [] true (.int .i64 i28) :: (rep 34 []))))))))))))) fun e => (blockQ 3 (seqQ (evalE M C k18x23) (seqQ (evalE M C k18x22) (roundQ M C k18x17 469860613 98565 Q)))) .normal ⟨e, h⟩) = (
  letK ((IntKind.wrap .i64 (i28 + 1)) : Int) fun i49 =>
  L18x17 M C p0 i2 i8 i15 i16 s26 n26 i27 i49 h Q
  ) := by kernel_rfl
theorem J18x28xeq (C : Cal) (p0 : Option Ad) (i2 : Int) (i8 : Int) (i15 : Int) (i16 : Int) (s26 : SA) (n26 : Nat) (i27 : Int) (i28 : Int) (h : Heap) (Q : Kont R) : J18x28 mk0 C p0 i2 i8 i15 i16 s26 n26 i27 i28 h Q = (
  letK ((IntKind.wrap .i64 (i28 + 1)) : Int) fun i49 =>
  L18x17 mk0 C p0 i2 i8 i15 i16 s26 n26 i27 i49 h Q
  ) := join_eqn (blockQ 3 (seqQ (evalE mk0 C k18x23) (seqQ (evalE mk0 C k18x22) (roundQ mk0 C k18x17 469860613 98565 Q)))) (.g [] true (.ptr p0) :: (.any :: (.g [] true (.int .i64 i2) :: (rep 5 (.g [] true (.int .i64 i8) :: (rep 6 (.g [] true (.int .i64 i15) :: (.g [] true (.int .i64 i16) :: (rep 9 (.g [] true (.sl s26 n26) :: (.g [] true (.int .i64 i27) :: (.g [] true (.int .i64 i28) :: (rep 34 []))))))))))))) h (J18x28xaux mk0 C p0 i2 i8 i15 i16 s26 n26 i27 i28 h Q)
theorem X18x5xe0 (M : Mk) (C : Cal) (i8 : Int) (h : Heap) : Q18x5 M C (.exit 0) (S18xe0 i8 h) = (
  some (.tup [(.int .i64 i8), (.bool true)], h)
  ) := by kernel_rfl
theorem X18x5xr (M : Mk) (C : Cal) (i6 : Int) (b7 : Bool) (h : Heap) : Q18x5 M C .ret (S18xr i6 b7 h) = (
  some (.tup [(.int .i64 i6), (.bool b7)], h)
  ) := by kernel_rfl
theorem X18x17xe2 (M : Mk) (C : Cal) (p0 : Option Ad) (i2 : Int) (i8 : Int) (i15 : Int) (i16 : Int) (h : Heap) (Q : Kont R) : Q18x17 M C Q (.exit 2) (S18xe2 p0 i2 i8 i15 i16 h) = (
  J18x29 M C p0 i2 i8 i15 i16 h Q
  ) := by kernel_rfl
def k4x6 : AC := .ret
def k4x5 : AC := .seq (.mask 256) k4x6
def k4x4 : AC := .mask 526
def k4x3 : AC := .seq (.cond (.tmp 34)
   (.seq (.ops false [
      ⟨(some 8), .move (.c (.bool false)), none, []⟩]) k4x5)
   (.skip)) k4x4
def k4x16 : AC := .exit 0
def k4x15 : AC := .mask 844424930138630
def k4x20 : AC := .join 844424930138630
def k4x19 : AC := .seq (.cond (.tmp 52)
   (.ops false [
      ⟨(some 53), .move (.tmp 9), none, []⟩,
      ⟨(some 54), .move (.tmp 11), none, []⟩,
      ⟨(some 55), .call 14 [(.tmp 53), (.c (.int .i64 5)), (.c (.int .i64 2)), (.tmp 54)] [(.cell (.int .i64)), (.cell (.int .i64))] .opq, none, []⟩])
   (.skip)) k4x20
def k4x18 : AC := .mask 844424930138630
def k4x17 : AC := .ops false [
    ⟨(some 56), .bin .other .add (.tmp 49) (.c (.int .i64 1)), none, []⟩,
    ⟨(some 49), .move (.tmp 56), none, []⟩]
def k4x14 : AC := .seq (.seq (.block 1 (.seq (.ops false [
     ⟨(some 51), .move (.tmp 9), none, []⟩,
     ⟨(some 52), .call 13 [(.tmp 51), (.c (.int .i64 2))] [(.cell .bool)] (.bool false), none, []⟩]) k4x19)) k4x18) k4x17
def k4x13 : AC := .seq (.seq (.cond (.tmp 50)
   (.skip)
   (.seq (.mask 6662) k4x16)) k4x15) k4x14
def k4x12 : AC := .seq (.ops false [
    ⟨(some 50), .bin .other .lss (.tmp 49) (.tmp 48), none, []⟩]) k4x13
def k4x11 : AC := .mask 6662
def k4x10 : AC := .seq (.block 0 (.loop 844424930138630 6662 k4x12)) k4x11
def k4x27 : AC := .ret
def k4x26 : AC := .seq (.mask 256) k4x27
def k4x25 : AC := .mask 12806
def k4x24 : AC := .seq (.cond (.tmp 70)
   (.seq (.ops false [
      ⟨(some 71), .move (.tmp 12), none, []⟩,
      ⟨(some 72), .un .not (.tmp 71), none, []⟩,
      ⟨(some 8), .move (.tmp 72), none, []⟩]) k4x26)
   (.skip)) k4x25
def k4x32 : AC := .ret
def k4x31 : AC := .seq (.mask 256) k4x32
def k4x30 : AC := .seq (.ops true [
    ⟨(some 89), .move (.tmp 10), none, []⟩,
    ⟨(some 90), .bin .other .eql (.tmp 89) (.c (.int .i64 0)), none, []⟩,
    ⟨(some 91), .move (.tmp 90), none, []⟩,
    ⟨(some 92), .move (.tmp 13), (some (91, true)), []⟩,
    ⟨(some 93), .lenSl (.tmp 92), (some (91, true)), []⟩,
    ⟨(some 94), .bin .other .eql (.tmp 93) (.c (.int .i64 1)), (some (91, true)), []⟩,
    ⟨(some 95), .pick (.tmp 91) (.tmp 94) (.c (.bool false)), none, []⟩,
    ⟨(some 96), .move (.tmp 95), none, []⟩,
    ⟨(some 97), .move (.tmp 14), (some (96, true)), []⟩,
    ⟨(some 98), .bin .other .eql (.tmp 97) (.c (.int .i64 0)), (some (96, true)), []⟩,
    ⟨(some 99), .pick (.tmp 96) (.tmp 98) (.c (.bool false)), none, []⟩,
    ⟨(some 100), .move (.tmp 99), none, []⟩,
    ⟨(some 101), .move (.tmp 16), (some (100, true)), []⟩,
    ⟨(some 102), .bin .other .eql (.tmp 101) (.c (.int .i64 0)), (some (100, true)), []⟩,
    ⟨(some 103), .pick (.tmp 100) (.tmp 102) (.c (.bool false)), none, []⟩,
    ⟨(some 104), .move (.tmp 103), none, []⟩,
    ⟨(some 105), .move (.tmp 17), (some (104, true)), []⟩,
    ⟨(some 106), .move (.tmp 15), (some (104, true)), []⟩,
    ⟨(some 107), .bin .other .eql (.tmp 105) (.tmp 106), (some (104, true)), []⟩,
    ⟨(some 108), .pick (.tmp 104) (.tmp 107) (.c (.bool false)), none, []⟩,
    ⟨(some 109), .move (.tmp 108), none, []⟩,
    ⟨(some 110), .move (.tmp 12), (some (109, true)), []⟩,
    ⟨(some 111), .un .not (.tmp 110), (some (109, true)), []⟩,
    ⟨(some 112), .move (.tmp 111), (some (109, true)), []⟩,
    ⟨(some 113), .move (.tmp 15), (some (112, false)), []⟩,
    ⟨(some 114), .move (.tmp 1), (some (112, false)), []⟩,
    ⟨(some 115), .move (.tmp 2), (some (112, false)), []⟩,
    ⟨(some 116), .bin .other .add (.tmp 115) (.c (.int .i64 1)), (some (112, false)), []⟩,
    ⟨(some 117), .bin .other .mul (.tmp 114) (.tmp 116), (some (112, false)), []⟩,
    ⟨(some 118), .bin .other .eql (.tmp 113) (.tmp 117), (some (112, false)), []⟩,
    ⟨(some 119), .pick (.tmp 112) (.c (.bool true)) (.tmp 118), (some (109, true)), []⟩,
    ⟨(some 120), .pick (.tmp 109) (.tmp 119) (.c (.bool false)), none, []⟩,
    ⟨(some 8), .move (.tmp 120), none, []⟩]) k4x31
def k4x29 : AC := .seq (.ops false [
    ⟨(some 85), .move (.tmp 9), none, []⟩,
    ⟨(some 86), .call 16 [(.tmp 85)] [(.cell (.int .i64)), (.cell (.int .i64))] .opq, none, []⟩,
    ⟨(some 84), .move (.tmp 86), none, []⟩,
    ⟨(some 87), .extract (.tmp 84) 0, none, []⟩,
    ⟨(some 88), .extract (.tmp 84) 1, none, []⟩,
    ⟨(some 16), .move (.tmp 87), none, []⟩,
    ⟨(some 17), .move (.tmp 88), none, []⟩]) k4x30
def k4x28 : AC := .seq (.ops false [
    ⟨(some 79), .move (.tmp 9), none, []⟩,
    ⟨(some 80), .move (.tmp 13), none, []⟩,
    ⟨(some 81), .call 19 [(.tmp 79), (.tmp 80)] [(.cell .sl), (.cell (.int .i64))] .opq, none, []⟩,
    ⟨(some 78), .move (.tmp 81), none, []⟩,
    ⟨(some 82), .extract (.tmp 78) 0, none, []⟩,
    ⟨(some 83), .extract (.tmp 78) 1, none, []⟩,
    ⟨(some 13), .move (.tmp 82), none, []⟩,
    ⟨(some 10), .move (.tmp 83), none, []⟩]) k4x29
def k4x23 : AC := .seq (.ops false [
    ⟨(some 74), .move (.tmp 9), none, []⟩,
    ⟨(some 75), .call 16 [(.tmp 74)] [(.cell (.int .i64)), (.cell (.int .i64))] .opq, none, []⟩,
    ⟨(some 73), .move (.tmp 75), none, []⟩,
    ⟨(some 76), .extract (.tmp 73) 0, none, []⟩,
    ⟨(some 77), .extract (.tmp 73) 1, none, []⟩,
    ⟨(some 14), .move (.tmp 76), none, []⟩,
    ⟨(some 15), .move (.tmp 77), none, []⟩]) k4x28
def k4x22 : AC := .seq (.seq (.ops true [
    ⟨(some 64), .move (.tmp 10), none, []⟩,
    ⟨(some 65), .bin .other .neq (.tmp 64) (.c (.int .i64 0)), none, []⟩,
    ⟨(some 66), .move (.tmp 65), none, []⟩,
    ⟨(some 67), .move (.tmp 13), (some (66, false)), []⟩,
    ⟨(some 68), .lenSl (.tmp 67), (some (66, false)), []⟩,
    ⟨(some 69), .bin .other .neq (.tmp 68) (.c (.int .i64 1)), (some (66, false)), []⟩,
    ⟨(some 70), .pick (.tmp 66) (.c (.bool true)) (.tmp 69), none, []⟩]) k4x24) k4x23
def k4x9 : AC := .seq (.ops false [
    ⟨(some 58), .move (.tmp 9), none, []⟩,
    ⟨(some 59), .move (.tmp 11), none, []⟩,
    ⟨(some 60), .buildSl [(.int .i64 0)] 1 [(0, (.tmp 59))], none, []⟩,
    ⟨(some 61), .call 19 [(.tmp 58), (.tmp 60)] [(.cell .sl), (.cell (.int .i64))] .opq, none, []⟩,
    ⟨(some 57), .move (.tmp 61), none, []⟩,
    ⟨(some 62), .extract (.tmp 57) 0, none, []⟩,
    ⟨(some 63), .extract (.tmp 57) 1, none, []⟩,
    ⟨(some 13), .move (.tmp 62), none, []⟩,
    ⟨(some 10), .move (.tmp 63), none, []⟩]) k4x22
def k4x8 : AC := .seq (.seq (.ops false [
    ⟨(some 47), .move (.tmp 3), none, []⟩,
    ⟨(some 48), .call 11 [(.tmp 47), (.c (.int .i64 10))] [(.cell (.int .i64))] (.int .i64 0), none, []⟩,
    ⟨(some 49), .move (.c (.int .i64 0)), none, []⟩]) k4x10) k4x9
def k4x7 : AC := .seq (.ops false [
    ⟨(some 41), .move (.tmp 9), none, []⟩,
    ⟨(some 42), .move (.tmp 1), none, []⟩,
    ⟨(some 43), .move (.tmp 2), none, []⟩,
    ⟨(some 44), .call 18 [(.tmp 41), (.tmp 42), (.tmp 43)] [(.cell (.int .i64)), (.cell .bool)] .opq, none, []⟩,
    ⟨(some 40), .move (.tmp 44), none, []⟩,
    ⟨(some 45), .extract (.tmp 40) 0, none, []⟩,
    ⟨(some 46), .extract (.tmp 40) 1, none, []⟩,
    ⟨(some 11), .move (.tmp 45), none, []⟩,
    ⟨(some 12), .move (.tmp 46), none, []⟩]) k4x8
def k4x2 : AC := .seq (.ops false [
    ⟨(some 35), .move (.tmp 1), none, []⟩,
    ⟨(some 36), .call 11 [(.tmp 35), (.c (.int .i64 15))] [(.cell (.int .i64))] (.int .i64 0), none, []⟩,
    ⟨(some 37), .move (.tmp 2), none, []⟩,
    ⟨(some 38), .call 11 [(.tmp 37), (.c (.int .i64 3))] [(.cell (.int .i64))] (.int .i64 0), none, []⟩,
    ⟨(some 39), .bin .other .add (.c (.int .i64 1)) (.tmp 38), none, []⟩,
    ⟨(some 1), .move (.tmp 36), none, []⟩,
    ⟨(some 2), .move (.tmp 39), none, []⟩]) k4x7
def k4x1 : AC := .seq (.seq (.ops true [
    ⟨(some 25), .call 12 [] [(.cell .bool)] (.bool false), none, []⟩,
    ⟨(some 26), .un .not (.tmp 25), none, []⟩,
    ⟨(some 27), .move (.tmp 26), none, []⟩,
    ⟨(some 28), .move (.tmp 10), (some (27, false)), []⟩,
    ⟨(some 29), .bin .other .neq (.tmp 28) (.c (.int .i64 0)), (some (27, false)), []⟩,
    ⟨(some 30), .pick (.tmp 27) (.c (.bool true)) (.tmp 29), none, []⟩,
    ⟨(some 31), .move (.tmp 30), none, []⟩,
    ⟨(some 32), .move (.tmp 9), (some (31, false)), []⟩,
    ⟨(some 33), .bin .ptr .eql (.tmp 32) (.c (.ptr none)), (some (31, false)), []⟩,
    ⟨(some 34), .pick (.tmp 31) (.c (.bool true)) (.tmp 33), none, []⟩]) k4x3) k4x2
def k4x0 : AC := .seq (.ops false [
    ⟨(some 19), .move (.tmp 0), none, []⟩,
    ⟨(some 20), .call 11 [(.tmp 19), (.c (.int .i64 200))] [(.cell (.int .i64))] (.int .i64 0), none, []⟩,
    ⟨(some 21), .bin .other .add (.c (.int .i64 300)) (.tmp 20), none, []⟩,
    ⟨(some 22), .call 10 [(.tmp 21), (.c (.int .i64 8)), (.c (.int .i64 20))] [(.cell .ptr), (.cell (.int .i64))] .opq, none, []⟩,
    ⟨(some 18), .move (.tmp 22), none, []⟩,
    ⟨(some 23), .extract (.tmp 18) 0, none, []⟩,
    ⟨(some 24), .extract (.tmp 18) 1, none, []⟩,
    ⟨(some 9), .move (.tmp 23), none, []⟩,
    ⟨(some 10), .move (.tmp 24), none, []⟩]) k4x1
/-- provenance/provenancekeep4.HeapLive -/
def c4 : AFn := ⟨121, [.tmp 8],
  .seq (.ops false [
    ⟨(some 8), .move (.c (.bool false)), none, []⟩]) k4x0⟩
def S4xe0 (i1 : Int) (i2 : Int) (p9 : Option Ad) (i11 : Int) (b12 : Bool) (h : Heap) : St := ⟨(.any :: (.g [] true (.int .i64 i1) :: (.g [] true (.int .i64 i2) :: (rep 6 (.g [] true (.ptr p9) :: (.any :: (.g [] true (.int .i64 i11) :: (.g [] true (.bool b12) :: (rep 108 []))))))))), h⟩
noncomputable def Q4x12 (M : Mk) (C : Cal) : Kont (AV × Heap) := (blockQ 0 (seqQ (evalE M C k4x11) (seqQ (evalE M C k4x9) (endQ [.tmp 8]))))
noncomputable def L4x12 (i1 : Int) (i2 : Int) (p9 : Option Ad) (i11 : Int) (b12 : Bool) (i48 : Int) (i49 : Int) (h : Heap) (Q : Kont R) : Option R := loopE (evalE M C k4x12) 844424930138630 6662 ⟨(.any :: (.g [] true (.int .i64 i1) :: (.g [] true (.int .i64 i2) :: (rep 6 (.g [] true (.ptr p9) :: (.any :: (.g [] true (.int .i64 i11) :: (.g [] true (.bool b12) :: (rep 35 (.g [] true (.int .i64 i48) :: (.g [] true (.int .i64 i49) :: (rep 71 [])))))))))))), h⟩ Q
noncomputable def J4x21 (M : Mk) (C : Cal) (i1 : Int) (i2 : Int) (p9 : Option Ad) (i11 : Int) (b12 : Bool) (i48 : Int) (i49 : Int) (h : Heap) (Q : Kont R) : Option R := M R (blockQ 1 (seqQ (evalE M C k4x18) (seqQ (evalE M C k4x17) (roundQ M C k4x12 844424930138630 6662 Q)))) (.any :: (.g [] true (.int .i64 i1) :: (.g [] true (.int .i64 i2) :: (rep 6 (.g [] true (.ptr p9) :: (.any :: (.g [] true (.int .i64 i11) :: (.g [] true (.bool b12) :: (rep 35 (.g [] true (.int .i64 i48) :: (.g [] true (.int .i64 i49) :: (rep 71 [])))))))))))) h
theorem r4 (i0 : Int) (i1 : Int) (i2 : Int) (i3 : Int) (h : Heap) : runE M C c4 [(.int .i64 i0), (.int .i64 i1), (.int .i64 i2), (.int .i64 i3)] h = (
  (C 11 [(.int .i64 i0), (.int .i64 200)] h).bind fun r20 =>
  gI .i64 (some r20.1) true fun i20 =>
  letK ((IntKind.wrap .i64 (300 + i20)) : Int) fun i21 =>
  (C 10 [(.int .i64 i21), (.int .i64 8), (.int .i64 20)] r20.2).bind fun r22 =>
  gT 2 r22.1 true fun u22 =>
  gP (some (List.getD u22 0 .opq)) true fun p22x0 =>
  gI .i64 (some (List.getD u22 1 .opq)) true fun i22x1 =>
  (C 12 [] r22.2).bind fun r25 =>
  gB (some r25.1) true fun b25 =>
  letK ((!decide ((i22x1 : Int) = 0)) : Bool) fun b29 =>
  letK ((if (!b25) = true then true else b29) : Bool) fun b30 =>
  letK ((Option.isNone p22x0) : Bool) fun b33 =>
  letK ((if b30 = true then true else b33) : Bool) fun b34 =>
  if b34 = true then
    (
    some ((.bool false), r25.2)
    )
  else
    (
    (C 11 [(.int .i64 i1), (.int .i64 15)] r25.2).bind fun r36 =>
    gI .i64 (some r36.1) true fun i36 =>
    (C 11 [(.int .i64 i2), (.int .i64 3)] r36.2).bind fun r38 =>
    gI .i64 (some r38.1) true fun i38 =>
    letK ((IntKind.wrap .i64 (1 + i38)) : Int) fun i39 =>
    (C 18 [(.ptr p22x0), (.int .i64 i36), (.int .i64 i39)] r38.2).bind fun r44 =>
    gT 2 r44.1 true fun u44 =>
    gI .i64 (some (List.getD u44 0 .opq)) true fun i44x0 =>
    gB (some (List.getD u44 1 .opq)) true fun b44x1 =>
    (C 11 [(.int .i64 i3), (.int .i64 10)] r44.2).bind fun r48 =>
    gI .i64 (some r48.1) true fun i48 =>
    L4x12 M C i36 i39 p22x0 i44x0 b44x1 i48 0 r48.2 (Q4x12 M C)
    )
  ) := by kernel_rfl
theorem cf4 : cFn Try.prog 4 = some c4 := by kernel_rfl
theorem e4 (i0 : Int) (i1 : Int) (i2 : Int) (i3 : Int) (h : Heap) : E 4 [(.int .i64 i0), (.int .i64 i1), (.int .i64 i2), (.int .i64 i3)] h = (
  (E 11 [(.int .i64 i0), (.int .i64 200)] h).bind fun r20 =>
  gI .i64 (some r20.1) true fun i20 =>
  letK ((IntKind.wrap .i64 (300 + i20)) : Int) fun i21 =>
  (E 10 [(.int .i64 i21), (.int .i64 8), (.int .i64 20)] r20.2).bind fun r22 =>
  gT 2 r22.1 true fun u22 =>
  gP (some (List.getD u22 0 .opq)) true fun p22x0 =>
  gI .i64 (some (List.getD u22 1 .opq)) true fun i22x1 =>
  (E 12 [] r22.2).bind fun r25 =>
  gB (some r25.1) true fun b25 =>
  letK ((!decide ((i22x1 : Int) = 0)) : Bool) fun b29 =>
  letK ((if (!b25) = true then true else b29) : Bool) fun b30 =>
  letK ((Option.isNone p22x0) : Bool) fun b33 =>
  letK ((if b30 = true then true else b33) : Bool) fun b34 =>
  if b34 = true then
    (
    some ((.bool false), r25.2)
    )
  else
    (
    (E 11 [(.int .i64 i1), (.int .i64 15)] r25.2).bind fun r36 =>
    gI .i64 (some r36.1) true fun i36 =>
    (E 11 [(.int .i64 i2), (.int .i64 3)] r36.2).bind fun r38 =>
    gI .i64 (some r38.1) true fun i38 =>
    letK ((IntKind.wrap .i64 (1 + i38)) : Int) fun i39 =>
    (E 18 [(.ptr p22x0), (.int .i64 i36), (.int .i64 i39)] r38.2).bind fun r44 =>
    gT 2 r44.1 true fun u44 =>
    gI .i64 (some (List.getD u44 0 .opq)) true fun i44x0 =>
    gB (some (List.getD u44 1 .opq)) true fun b44x1 =>
    (E 11 [(.int .i64 i3), (.int .i64 10)] r44.2).bind fun r48 =>
    gI .i64 (some r48.1) true fun i48 =>
    L4x12 mk0 E i36 i39 p22x0 i44x0 b44x1 i48 0 r48.2 (Q4x12 mk0 E)
    )
  ) := (EV_eq (P := Try.prog) (T := T0) rfl cf4 [(.int .i64 i0), (.int .i64 i1), (.int .i64 i2), (.int .i64 i3)] h).trans (r4 mk0 E i0 i1 i2 i3 h)
theorem L4x12xaux (i1 : Int) (i2 : Int) (p9 : Option Ad) (i11 : Int) (b12 : Bool) (i48 : Int) (i49 : Int) (h : Heap) (Q : Kont R) : (restrF 844424930138630 ⟨(.any :: (.g [] true (.int .i64 i1) :: (.g [] true (.int .i64 i2) :: (rep 6 (.g [] true (.ptr p9) :: (.any :: (.g [] true (.int .i64 i11) :: (.g [] true (.bool b12) :: (rep 35 (.g [] true (.int .i64 i48) :: (.g [] true (.int .i64 i49) :: (rep 71 [])))))))))))), h⟩ fun σ => evalE M C k4x12 σ (roundQ M C k4x12 844424930138630 6662 Q)) = (
  letK ((decide ((i49 : Int) < i48)) : Bool) fun b50 =>
  if b50 = true then
    (
    (C 13 [(.ptr p9), (.int .i64 2)] h).bind fun r52 =>
    gB (some r52.1) true fun b52 =>
    if b52 = true then
      (
      (C 14 [(.ptr p9), (.int .i64 5), (.int .i64 2), (.int .i64 i11)] r52.2).bind fun r55 =>
      gT 2 r55.1 true fun u55 =>
      gI .i64 (some (List.getD u55 0 .opq)) true fun i55x0 =>
      gI .i64 (some (List.getD u55 1 .opq)) true fun i55x1 =>
      J4x21 M C i1 i2 p9 i11 b12 i48 i49 r55.2 Q
      )
    else
      (
      J4x21 M C i1 i2 p9 i11 b12 i48 i49 r52.2 Q
      )
    )
  else
    (
    Q (.exit 0) (S4xe0 i1 i2 p9 i11 b12 h)
    )
  ) := by kernel_rfl
theorem L4x12xeq (i1 : Int) (i2 : Int) (p9 : Option Ad) (i11 : Int) (b12 : Bool) (i48 : Int) (i49 : Int) (h : Heap) (Q : Kont R) : L4x12 mk0 C i1 i2 p9 i11 b12 i48 i49 h Q = (
  letK ((decide ((i49 : Int) < i48)) : Bool) fun b50 =>
  if b50 = true then
    (
    (C 13 [(.ptr p9), (.int .i64 2)] h).bind fun r52 =>
    gB (some r52.1) true fun b52 =>
    if b52 = true then
      (
      (C 14 [(.ptr p9), (.int .i64 5), (.int .i64 2), (.int .i64 i11)] r52.2).bind fun r55 =>
      gT 2 r55.1 true fun u55 =>
      gI .i64 (some (List.getD u55 0 .opq)) true fun i55x0 =>
      gI .i64 (some (List.getD u55 1 .opq)) true fun i55x1 =>
      J4x21 mk0 C i1 i2 p9 i11 b12 i48 i49 r55.2 Q
      )
    else
      (
      J4x21 mk0 C i1 i2 p9 i11 b12 i48 i49 r52.2 Q
      )
    )
  else
    (
    Q (.exit 0) (S4xe0 i1 i2 p9 i11 b12 h)
    )
  ) := loop_eqn C k4x12 844424930138630 6662 (.any :: (.g [] true (.int .i64 i1) :: (.g [] true (.int .i64 i2) :: (rep 6 (.g [] true (.ptr p9) :: (.any :: (.g [] true (.int .i64 i11) :: (.g [] true (.bool b12) :: (rep 35 (.g [] true (.int .i64 i48) :: (.g [] true (.int .i64 i49) :: (rep 71 [])))))))))))) h Q (by kernel_rfl) (L4x12xaux mk0 C i1 i2 p9 i11 b12 i48 i49 h Q)
theorem J4x21xaux (M : Mk) (C : Cal) (i1 : Int) (i2 : Int) (p9 : Option Ad) (i11 : Int) (b12 : Bool) (i48 : Int) (i49 : Int) (h : Heap) (Q : Kont R) : (forceK tk (.any :: (.g [] true (.int .i64 i1) :: (.g [] true (.int .i64 i2) :: (rep 6 (.g [] true (.ptr p9) :: (.any :: (.g [] true (.int .i64 i11) :: (.g [] true (.bool b12) :: (rep 35 (.g [] true (.int .i64 i48) :: (.g [] true (.int .i64 i49) :: (rep 71 [])))))))))))) fun e => (blockQ 1 (seqQ (evalE M C k4x18) (seqQ (evalE M C k4x17) (roundQ M C k4x12 844424930138630 6662 Q)))) .normal ⟨e, h⟩) = (
  letK ((IntKind.wrap .i64 (i49 + 1)) : Int) fun i56 =>
  L4x12 M C i1 i2 p9 i11 b12 i48 i56 h Q
  ) := by kernel_rfl
theorem J4x21xeq (C : Cal) (i1 : Int) (i2 : Int) (p9 : Option Ad) (i11 : Int) (b12 : Bool) (i48 : Int) (i49 : Int) (h : Heap) (Q : Kont R) : J4x21 mk0 C i1 i2 p9 i11 b12 i48 i49 h Q = (
  letK ((IntKind.wrap .i64 (i49 + 1)) : Int) fun i56 =>
  L4x12 mk0 C i1 i2 p9 i11 b12 i48 i56 h Q
  ) := join_eqn (blockQ 1 (seqQ (evalE mk0 C k4x18) (seqQ (evalE mk0 C k4x17) (roundQ mk0 C k4x12 844424930138630 6662 Q)))) (.any :: (.g [] true (.int .i64 i1) :: (.g [] true (.int .i64 i2) :: (rep 6 (.g [] true (.ptr p9) :: (.any :: (.g [] true (.int .i64 i11) :: (.g [] true (.bool b12) :: (rep 35 (.g [] true (.int .i64 i48) :: (.g [] true (.int .i64 i49) :: (rep 71 [])))))))))))) h (J4x21xaux mk0 C i1 i2 p9 i11 b12 i48 i49 h Q)
theorem X4x12xe0 (M : Mk) (C : Cal) (i1 : Int) (i2 : Int) (p9 : Option Ad) (i11 : Int) (b12 : Bool) (h : Heap) : Q4x12 M C (.exit 0) (S4xe0 i1 i2 p9 i11 b12 h) = (
  newK h (.cells [(.int .i64 i11)] (.grow 1) 0) fun h_2 =>
  (C 19 [(.ptr p9), (.sl (.pos ⟨List.length h, 0, 0⟩) 1)] h_2).bind fun r61 =>
  gT 2 r61.1 true fun u61 =>
  gL (some (List.getD u61 0 .opq)) true fun s61x0 n61x0 =>
  gI .i64 (some (List.getD u61 1 .opq)) true fun i61x1 =>
  letK ((!decide ((i61x1 : Int) = 0)) : Bool) fun b65 =>
  letK ((!decide ((((n61x0 : Nat) : Int) : Int) = 1)) : Bool) fun b69 =>
  letK ((if b65 = true then true else b69) : Bool) fun b70 =>
  if b70 = true then
    (
    some ((.bool (!b12)), r61.2)
    )
  else
    (
    (C 16 [(.ptr p9)] r61.2).bind fun r75 =>
    gT 2 r75.1 true fun u75 =>
    gI .i64 (some (List.getD u75 0 .opq)) true fun i75x0 =>
    gI .i64 (some (List.getD u75 1 .opq)) true fun i75x1 =>
    (C 19 [(.ptr p9), (.sl s61x0 n61x0)] r75.2).bind fun r81 =>
    gT 2 r81.1 true fun u81 =>
    gL (some (List.getD u81 0 .opq)) true fun s81x0 n81x0 =>
    gI .i64 (some (List.getD u81 1 .opq)) true fun i81x1 =>
    (C 16 [(.ptr p9)] r81.2).bind fun r86 =>
    gT 2 r86.1 true fun u86 =>
    gI .i64 (some (List.getD u86 0 .opq)) true fun i86x0 =>
    gI .i64 (some (List.getD u86 1 .opq)) true fun i86x1 =>
    letK ((decide ((i81x1 : Int) = 0)) : Bool) fun b90 =>
    letK ((decide ((((n81x0 : Nat) : Int) : Int) = 1)) : Bool) fun b94 =>
    letK ((if b90 = true then b94 else false) : Bool) fun b95 =>
    letK ((decide ((i75x0 : Int) = 0)) : Bool) fun b98 =>
    letK ((if b95 = true then b98 else false) : Bool) fun b99 =>
    letK ((decide ((i86x0 : Int) = 0)) : Bool) fun b102 =>
    letK ((if b99 = true then b102 else false) : Bool) fun b103 =>
    letK ((decide ((i86x1 : Int) = i75x1)) : Bool) fun b107 =>
    letK ((if b103 = true then b107 else false) : Bool) fun b108 =>
    letK ((IntKind.wrap .i64 (i2 + 1)) : Int) fun i116 =>
    letK ((IntKind.wrap .i64 (i1 * i116)) : Int) fun i117 =>
    letK ((decide ((i75x1 : Int) = i117)) : Bool) fun b118 =>
    letK ((if (!b12) = true then true else b118) : Bool) fun b119 =>
    letK ((if b108 = true then b119 else false) : Bool) fun b120 =>
    some ((.bool b120), r86.2)
    )
  ) := by kernel_rfl
def k6x6 : AC := .ret
def k6x5 : AC := .seq (.mask 1024) k6x6
def k6x4 : AC := .mask 2076
def k6x3 : AC := .seq (.cond (.tmp 44)
   (.seq (.ops false [
      ⟨(some 10), .move (.c (.bool false)), none, []⟩]) k6x5)
   (.skip)) k6x4
def k6x16 : AC := .exit 0
def k6x15 : AC := .mask 864691128455161868
def k6x23 : AC := .join 864691128455227404
def k6x22 : AC := .seq (.cond (.tmp 66)
   (.ops false [
      ⟨(some 67), .move (.tmp 11), none, []⟩,
      ⟨(some 68), .makeFn 19 [(.tmp 67)] [], none, []⟩,
      ⟨(some 16), .move (.tmp 68), none, []⟩])
   (.skip)) k6x23
def k6x28 : AC := .join 864691128455161868
def k6x27 : AC := .seq (.cond (.tmp 82)
   (.ops false [
      ⟨(some 83), .move (.tmp 17), none, []⟩,
      ⟨(some 84), .indexAddr 1 (.tmp 83) (.c (.int .i64 0)), none, []⟩,
      ⟨(some 85), .load (.cell (.int .i64)) (.tmp 84), none, []⟩,
      ⟨(some 13), .move (.tmp 85), none, []⟩])
   (.skip)) k6x28
def k6x26 : AC := .seq (.ops true [
    ⟨(some 76), .move (.tmp 18), none, []⟩,
    ⟨(some 77), .bin .other .eql (.tmp 76) (.c (.int .i64 0)), none, []⟩,
    ⟨(some 78), .move (.tmp 77), none, []⟩,
    ⟨(some 79), .move (.tmp 17), (some (78, true)), []⟩,
    ⟨(some 80), .lenSl (.tmp 79), (some (78, true)), []⟩,
    ⟨(some 81), .bin .other .eql (.tmp 80) (.c (.int .i64 1)), (some (78, true)), []⟩,
    ⟨(some 82), .pick (.tmp 78) (.tmp 81) (.c (.bool false)), none, []⟩]) k6x27
def k6x36 : AC := .exit 2
def k6x35 : AC := .mask 864691128455686156
def k6x34 : AC := .seq (.cond (.tmp 93)
   (.skip)
   (.seq (.mask 864691128455161868) k6x36)) k6x35
def k6x38 : AC := .mask 864691128455686156
def k6x37 : AC := .ops false [
    ⟨(some 94), .move (.tmp 19), none, []⟩,
    ⟨(some 95), .bin .other .add (.tmp 94) (.c (.int .i64 1)), none, []⟩,
    ⟨(some 19), .move (.tmp 95), none, []⟩]
def k6x33 : AC := .seq (.seq (.block 3 (.ops false [
     ⟨(some 96), .move (.tmp 11), none, []⟩,
     ⟨(some 97), .move (.tmp 19), none, []⟩,
     ⟨(some 98), .move (.tmp 19), none, []⟩,
     ⟨(some 99), .bin .other .rem (.tmp 98) (.c (.int .i64 3)), none, []⟩,
     ⟨(some 100), .call 14 [(.tmp 96), (.tmp 97), (.tmp 99), (.c (.int .i64 1))] [(.cell (.int .i64)), (.cell (.int .i64))] .opq, none, []⟩])) k6x38) k6x37
def k6x32 : AC := .seq (.seq (.ops true [
    ⟨(some 86), .move (.tmp 11), none, []⟩,
    ⟨(some 87), .move (.tmp 19), none, []⟩,
    ⟨(some 88), .bin .other .rem (.tmp 87) (.c (.int .i64 3)), none, []⟩,
    ⟨(some 89), .call 13 [(.tmp 86), (.tmp 88)] [(.cell .bool)] (.bool false), none, []⟩,
    ⟨(some 90), .move (.tmp 89), none, []⟩,
    ⟨(some 91), .move (.tmp 19), (some (90, true)), []⟩,
    ⟨(some 92), .bin .other .lss (.tmp 91) (.c (.int .i64 30)), (some (90, true)), []⟩,
    ⟨(some 93), .pick (.tmp 90) (.tmp 92) (.c (.bool false)), none, []⟩]) k6x34) k6x33
def k6x31 : AC := .mask 864691128455161868
def k6x30 : AC := .seq (.block 2 (.loop 864691128455686156 864691128455161868 k6x32)) k6x31
def k6x25 : AC := .seq (.ops false [
    ⟨(some 19), .move (.c (.int .i64 0)), none, []⟩]) k6x30
def k6x21 : AC := .seq (.seq (.ops false [
    ⟨(some 70), .move (.tmp 16), none, []⟩,
    ⟨(some 71), .move (.tmp 13), none, []⟩,
    ⟨(some 72), .buildSl [(.int .i64 0)] 1 [(0, (.tmp 71))], none, []⟩,
    ⟨(some 73), .callV (.tmp 70) [(.tmp 72)] [(.cell .sl), (.cell (.int .i64))] .opq, none, []⟩,
    ⟨(some 69), .move (.tmp 73), none, []⟩,
    ⟨(some 74), .extract (.tmp 69) 0, none, []⟩,
    ⟨(some 75), .extract (.tmp 69) 1, none, []⟩,
    ⟨(some 17), .move (.tmp 74), none, []⟩,
    ⟨(some 18), .move (.tmp 75), none, []⟩]) k6x26) k6x25
def k6x20 : AC := .seq (.seq (.ops false [
    ⟨(some 64), .move (.tmp 15), none, []⟩,
    ⟨(some 65), .bin .other .rem (.tmp 64) (.c (.int .i64 2)), none, []⟩,
    ⟨(some 66), .bin .other .eql (.tmp 65) (.c (.int .i64 1)), none, []⟩]) k6x22) k6x21
def k6x19 : AC := .seq (.ops false [
    ⟨(some 62), .move (.tmp 11), none, []⟩,
    ⟨(some 63), .makeFn 20 [(.tmp 62)] [], none, []⟩,
    ⟨(some 16), .move (.tmp 63), none, []⟩]) k6x20
def k6x18 : AC := .mask 864691128455161868
def k6x17 : AC := .ops false [
    ⟨(some 101), .bin .other .add (.tmp 59) (.c (.int .i64 1)), none, []⟩,
    ⟨(some 59), .move (.tmp 101), none, []⟩]
def k6x14 : AC := .seq (.seq (.block 1 (.seq (.ops false [
     ⟨(some 61), .move (.tmp 59), none, []⟩,
     ⟨(some 15), .move (.tmp 61), none, []⟩]) k6x19)) k6x18) k6x17
def k6x13 : AC := .seq (.seq (.cond (.tmp 60)
   (.skip)
   (.seq (.mask 26636) k6x16)) k6x15) k6x14
def k6x12 : AC := .seq (.ops false [
    ⟨(some 60), .bin .other .lss (.tmp 59) (.tmp 58), none, []⟩]) k6x13
def k6x11 : AC := .mask 26636
def k6x10 : AC := .seq (.block 0 (.loop 864691128455161868 26636 k6x12)) k6x11
def k6x47 : AC := .exit 4
def k6x46 : AC := .mask 3164172
def k6x45 : AC := .seq (.cond (.tmp 110)
   (.skip)
   (.seq (.mask 1067012) k6x47)) k6x46
def k6x55 : AC := .ret
def k6x54 : AC := .seq (.mask 1024) k6x55
def k6x53 : AC := .mask 3164172
def k6x52 : AC := .seq (.cond (.tmp 130)
   (.seq (.ops false [
      ⟨(some 10), .move (.c (.bool false)), none, []⟩]) k6x54)
   (.skip)) k6x53
def k6x60 : AC := .ret
def k6x59 : AC := .seq (.mask 1024) k6x60
def k6x58 : AC := .mask 3164172
def k6x57 : AC := .seq (.cond (.tmp 139)
   (.seq (.ops false [
      ⟨(some 10), .move (.c (.bool false)), none, []⟩]) k6x59)
   (.skip)) k6x58
def k6x56 : AC := .seq (.ops false [
    ⟨(some 138), .move (.tmp 24), none, []⟩,
    ⟨(some 139), .bin .other .neq (.tmp 138) (.c (.int .i64 0)), none, []⟩]) k6x57
def k6x51 : AC := .seq (.ops false [
    ⟨(some 132), .move (.tmp 11), none, []⟩,
    ⟨(some 133), .move (.tmp 21), none, []⟩,
    ⟨(some 134), .bin .other .add (.tmp 133) (.c (.int .i64 2)), none, []⟩,
    ⟨(some 135), .call 22 [(.tmp 132), (.tmp 134)] [(.cell (.int .i64)), (.cell (.int .i64))] .opq, none, []⟩,
    ⟨(some 131), .move (.tmp 135), none, []⟩,
    ⟨(some 136), .extract (.tmp 131) 0, none, []⟩,
    ⟨(some 137), .extract (.tmp 131) 1, none, []⟩,
    ⟨(some 21), .move (.tmp 136), none, []⟩,
    ⟨(some 24), .move (.tmp 137), none, []⟩]) k6x56
def k6x50 : AC := .seq (.seq (.ops true [
    ⟨(some 120), .move (.tmp 24), none, []⟩,
    ⟨(some 121), .bin .other .neq (.tmp 120) (.c (.int .i64 0)), none, []⟩,
    ⟨(some 122), .move (.tmp 121), none, []⟩,
    ⟨(some 123), .move (.tmp 22), (some (122, false)), []⟩,
    ⟨(some 124), .bin .other .neq (.tmp 123) (.c (.int .i64 1)), (some (122, false)), []⟩,
    ⟨(some 125), .pick (.tmp 122) (.c (.bool true)) (.tmp 124), none, []⟩,
    ⟨(some 126), .move (.tmp 125), none, []⟩,
    ⟨(some 127), .move (.tmp 23), (some (126, false)), []⟩,
    ⟨(some 128), .move (.tmp 3), (some (126, false)), []⟩,
    ⟨(some 129), .bin .other .neq (.tmp 127) (.tmp 128), (some (126, false)), []⟩,
    ⟨(some 130), .pick (.tmp 126) (.c (.bool true)) (.tmp 129), none, []⟩]) k6x52) k6x51
def k6x49 : AC := .mask 3164172
def k6x48 : AC := .ops false [
    ⟨(some 111), .move (.tmp 20), none, []⟩,
    ⟨(some 112), .bin .other .add (.tmp 111) (.c (.int .i64 1)), none, []⟩,
    ⟨(some 20), .move (.tmp 112), none, []⟩]
def k6x44 : AC := .seq (.seq (.block 5 (.seq (.ops false [
     ⟨(some 114), .move (.tmp 11), none, []⟩,
     ⟨(some 115), .move (.tmp 21), none, []⟩,
     ⟨(some 116), .call 15 [(.tmp 114), (.tmp 115)] [(.cell (.int .i64)), (.cell (.int .i64)), (.cell (.int .i64))] .opq, none, []⟩,
     ⟨(some 113), .move (.tmp 116), none, []⟩,
     ⟨(some 117), .extract (.tmp 113) 0, none, []⟩,
     ⟨(some 118), .extract (.tmp 113) 1, none, []⟩,
     ⟨(some 119), .extract (.tmp 113) 2, none, []⟩,
     ⟨(some 22), .move (.tmp 117), none, []⟩,
     ⟨(some 23), .move (.tmp 118), none, []⟩,
     ⟨(some 24), .move (.tmp 119), none, []⟩]) k6x50)) k6x49) k6x48
def k6x43 : AC := .seq (.seq (.ops true [
    ⟨(some 103), .move (.tmp 21), none, []⟩,
    ⟨(some 104), .bin .other .rem (.tmp 103) (.c (.int .i64 2)), none, []⟩,
    ⟨(some 105), .bin .other .eql (.tmp 104) (.c (.int .i64 0)), none, []⟩,
    ⟨(some 106), .move (.tmp 105), none, []⟩,
    ⟨(some 107), .move (.tmp 20), (some (106, true)), []⟩,
    ⟨(some 108), .move (.tmp 2), (some (106, true)), []⟩,
    ⟨(some 109), .bin .other .leq (.tmp 107) (.tmp 108), (some (106, true)), []⟩,
    ⟨(some 110), .pick (.tmp 106) (.tmp 109) (.c (.bool false)), none, []⟩]) k6x45) k6x44
def k6x42 : AC := .mask 1067012
def k6x41 : AC := .seq (.block 4 (.loop 3164172 1067012 k6x43)) k6x42
def k6x62 : AC := .ret
def k6x61 : AC := .seq (.mask 1024) k6x62
def k6x40 : AC := .seq (.ops true [
    ⟨(some 140), .move (.tmp 11), none, []⟩,
    ⟨(some 141), .call 17 [(.tmp 140)] [(.cell .bool)] (.bool false), none, []⟩,
    ⟨(some 142), .move (.tmp 141), none, []⟩,
    ⟨(some 143), .move (.tmp 14), (some (142, true)), []⟩,
    ⟨(some 144), .un .not (.tmp 143), (some (142, true)), []⟩,
    ⟨(some 145), .move (.tmp 144), (some (142, true)), []⟩,
    ⟨(some 146), .move (.tmp 20), (some (145, false)), []⟩,
    ⟨(some 147), .move (.tmp 2), (some (145, false)), []⟩,
    ⟨(some 148), .bin .other .eql (.tmp 146) (.tmp 147), (some (145, false)), []⟩,
    ⟨(some 149), .pick (.tmp 145) (.c (.bool true)) (.tmp 148), (some (142, true)), []⟩,
    ⟨(some 150), .pick (.tmp 142) (.tmp 149) (.c (.bool false)), none, []⟩,
    ⟨(some 10), .move (.tmp 150), none, []⟩]) k6x61
def k6x39 : AC := .seq (.seq (.ops false [
    ⟨(some 102), .move (.tmp 13), none, []⟩,
    ⟨(some 21), .move (.tmp 102), none, []⟩]) k6x41) k6x40
def k6x9 : AC := .seq (.ops false [
    ⟨(some 20), .move (.c (.int .i64 0)), none, []⟩]) k6x39
def k6x8 : AC := .seq (.seq (.ops false [
    ⟨(some 57), .move (.tmp 4), none, []⟩,
    ⟨(some 58), .call 11 [(.tmp 57), (.c (.int .i64 6))] [(.cell (.int .i64))] (.int .i64 0), none, []⟩,
    ⟨(some 59), .move (.c (.int .i64 0)), none, []⟩]) k6x10) k6x9
def k6x7 : AC := .seq (.ops false [
    ⟨(some 51), .move (.tmp 11), none, []⟩,
    ⟨(some 52), .move (.tmp 2), none, []⟩,
    ⟨(some 53), .move (.tmp 3), none, []⟩,
    ⟨(some 54), .call 18 [(.tmp 51), (.tmp 52), (.tmp 53)] [(.cell (.int .i64)), (.cell .bool)] .opq, none, []⟩,
    ⟨(some 50), .move (.tmp 54), none, []⟩,
    ⟨(some 55), .extract (.tmp 50) 0, none, []⟩,
    ⟨(some 56), .extract (.tmp 50) 1, none, []⟩,
    ⟨(some 13), .move (.tmp 55), none, []⟩,
    ⟨(some 14), .move (.tmp 56), none, []⟩]) k6x8
def k6x2 : AC := .seq (.ops false [
    ⟨(some 45), .move (.tmp 2), none, []⟩,
    ⟨(some 46), .call 11 [(.tmp 45), (.c (.int .i64 15))] [(.cell (.int .i64))] (.int .i64 0), none, []⟩,
    ⟨(some 47), .move (.tmp 3), none, []⟩,
    ⟨(some 48), .call 11 [(.tmp 47), (.c (.int .i64 3))] [(.cell (.int .i64))] (.int .i64 0), none, []⟩,
    ⟨(some 49), .bin .other .add (.c (.int .i64 1)) (.tmp 48), none, []⟩,
    ⟨(some 2), .move (.tmp 46), none, []⟩,
    ⟨(some 3), .move (.tmp 49), none, []⟩]) k6x7
def k6x1 : AC := .seq (.seq (.ops true [
    ⟨(some 35), .call 12 [] [(.cell .bool)] (.bool false), none, []⟩,
    ⟨(some 36), .un .not (.tmp 35), none, []⟩,
    ⟨(some 37), .move (.tmp 36), none, []⟩,
    ⟨(some 38), .move (.tmp 12), (some (37, false)), []⟩,
    ⟨(some 39), .bin .other .neq (.tmp 38) (.c (.int .i64 0)), (some (37, false)), []⟩,
    ⟨(some 40), .pick (.tmp 37) (.c (.bool true)) (.tmp 39), none, []⟩,
    ⟨(some 41), .move (.tmp 40), none, []⟩,
    ⟨(some 42), .move (.tmp 11), (some (41, false)), []⟩,
    ⟨(some 43), .bin .ptr .eql (.tmp 42) (.c (.ptr none)), (some (41, false)), []⟩,
    ⟨(some 44), .pick (.tmp 41) (.c (.bool true)) (.tmp 43), none, []⟩]) k6x3) k6x2
def k6x0 : AC := .seq (.ops false [
    ⟨(some 26), .move (.tmp 0), none, []⟩,
    ⟨(some 27), .call 11 [(.tmp 26), (.c (.int .i64 300))] [(.cell (.int .i64))] (.int .i64 0), none, []⟩,
    ⟨(some 28), .bin .other .add (.c (.int .i64 200)) (.tmp 27), none, []⟩,
    ⟨(some 29), .move (.tmp 1), none, []⟩,
    ⟨(some 30), .call 11 [(.tmp 29), (.c (.int .i64 40))] [(.cell (.int .i64))] (.int .i64 0), none, []⟩,
    ⟨(some 31), .bin .other .add (.c (.int .i64 4)) (.tmp 30), none, []⟩,
    ⟨(some 32), .call 10 [(.tmp 28), (.c (.int .i64 8)), (.tmp 31)] [(.cell .ptr), (.cell (.int .i64))] .opq, none, []⟩,
    ⟨(some 25), .move (.tmp 32), none, []⟩,
    ⟨(some 33), .extract (.tmp 25) 0, none, []⟩,
    ⟨(some 34), .extract (.tmp 25) 1, none, []⟩,
    ⟨(some 11), .move (.tmp 33), none, []⟩,
    ⟨(some 12), .move (.tmp 34), none, []⟩]) k6x1
/-- provenance/provenancekeep4.HeapChains -/
def c6 : AFn := ⟨151, [.tmp 10],
  .seq (.ops false [
    ⟨(some 10), .move (.c (.bool false)), none, []⟩]) k6x0⟩
def S6xe0 (i2 : Int) (i3 : Int) (p11 : Option Ad) (i13 : Int) (b14 : Bool) (h : Heap) : St := ⟨(.any :: .any :: (.g [] true (.int .i64 i2) :: (.g [] true (.int .i64 i3) :: (rep 7 (.g [] true (.ptr p11) :: (.any :: (.g [] true (.int .i64 i13) :: (.g [] true (.bool b14) :: (rep 136 []))))))))), h⟩
def S6xe2 (i2 : Int) (i3 : Int) (p11 : Option Ad) (i13 : Int) (b14 : Bool) (i58 : Int) (i59 : Int) (h : Heap) : St := ⟨(.any :: .any :: (.g [] true (.int .i64 i2) :: (.g [] true (.int .i64 i3) :: (rep 7 (.g [] true (.ptr p11) :: (.any :: (.g [] true (.int .i64 i13) :: (.g [] true (.bool b14) :: (rep 43 (.g [] true (.int .i64 i58) :: (.g [] true (.int .i64 i59) :: (rep 91 [])))))))))))), h⟩
def S6xr (b10 : Bool) (h : Heap) : St := ⟨(rep 10 (.g [] true (.bool b10) :: (rep 140 []))), h⟩
def S6xe4 (i2 : Int) (p11 : Option Ad) (b14 : Bool) (i20 : Int) (h : Heap) : St := ⟨(.any :: .any :: (.g [] true (.int .i64 i2) :: (rep 8 (.g [] true (.ptr p11) :: (.any :: .any :: (.g [] true (.bool b14) :: (rep 5 (.g [] true (.int .i64 i20) :: (rep 130 []))))))))), h⟩
noncomputable def Q6x12 (M : Mk) (C : Cal) : Kont (AV × Heap) := (blockQ 0 (seqQ (evalE M C k6x11) (seqQ (evalE M C k6x9) (endQ [.tmp 10]))))
noncomputable def L6x12 (i2 : Int) (i3 : Int) (p11 : Option Ad) (i13 : Int) (b14 : Bool) (i58 : Int) (i59 : Int) (h : Heap) (Q : Kont R) : Option R := loopE (evalE M C k6x12) 864691128455161868 26636 ⟨(.any :: .any :: (.g [] true (.int .i64 i2) :: (.g [] true (.int .i64 i3) :: (rep 7 (.g [] true (.ptr p11) :: (.any :: (.g [] true (.int .i64 i13) :: (.g [] true (.bool b14) :: (rep 43 (.g [] true (.int .i64 i58) :: (.g [] true (.int .i64 i59) :: (rep 91 [])))))))))))), h⟩ Q
noncomputable def J6x24 (M : Mk) (C : Cal) (i2 : Int) (i3 : Int) (p11 : Option Ad) (i13 : Int) (b14 : Bool) (v16 : AV) (i58 : Int) (i59 : Int) (h : Heap) (Q : Kont R) : Option R := M R (seqQ (evalE M C k6x21) (blockQ 1 (seqQ (evalE M C k6x18) (seqQ (evalE M C k6x17) (roundQ M C k6x12 864691128455161868 26636 Q))))) (.any :: .any :: (.g [] true (.int .i64 i2) :: (.g [] true (.int .i64 i3) :: (rep 7 (.g [] true (.ptr p11) :: (.any :: (.g [] true (.int .i64 i13) :: (.g [] true (.bool b14) :: (.any :: (.g [] true v16 :: (rep 41 (.g [] true (.int .i64 i58) :: (.g [] true (.int .i64 i59) :: (rep 91 [])))))))))))))) h
noncomputable def J6x29 (M : Mk) (C : Cal) (i2 : Int) (i3 : Int) (p11 : Option Ad) (i13 : Int) (b14 : Bool) (i58 : Int) (i59 : Int) (h : Heap) (Q : Kont R) : Option R := M R (seqQ (evalE M C k6x25) (blockQ 1 (seqQ (evalE M C k6x18) (seqQ (evalE M C k6x17) (roundQ M C k6x12 864691128455161868 26636 Q))))) (.any :: .any :: (.g [] true (.int .i64 i2) :: (.g [] true (.int .i64 i3) :: (rep 7 (.g [] true (.ptr p11) :: (.any :: (.g [] true (.int .i64 i13) :: (.g [] true (.bool b14) :: (rep 43 (.g [] true (.int .i64 i58) :: (.g [] true (.int .i64 i59) :: (rep 91 [])))))))))))) h
noncomputable def Q6x32 (M : Mk) (C : Cal) (Q : Kont R) : Kont R := (blockQ 2 (seqQ (evalE M C k6x31) (blockQ 1 (seqQ (evalE M C k6x18) (seqQ (evalE M C k6x17) (roundQ M C k6x12 864691128455161868 26636 Q))))))
noncomputable def L6x32 (i2 : Int) (i3 : Int) (p11 : Option Ad) (i13 : Int) (b14 : Bool) (i19 : Int) (i58 : Int) (i59 : Int) (h : Heap) (Q : Kont R) : Option R := loopE (evalE M C k6x32) 864691128455686156 864691128455161868 ⟨(.any :: .any :: (.g [] true (.int .i64 i2) :: (.g [] true (.int .i64 i3) :: (rep 7 (.g [] true (.ptr p11) :: (.any :: (.g [] true (.int .i64 i13) :: (.g [] true (.bool b14) :: (rep 4 (.g [] true (.int .i64 i19) :: (rep 38 (.g [] true (.int .i64 i58) :: (.g [] true (.int .i64 i59) :: (rep 91 [])))))))))))))), h⟩ Q
noncomputable def Q6x43 (M : Mk) (C : Cal) : Kont (AV × Heap) := (blockQ 4 (seqQ (evalE M C k6x42) (seqQ (evalE M C k6x40) (endQ [.tmp 10]))))
noncomputable def L6x43 (i2 : Int) (i3 : Int) (p11 : Option Ad) (b14 : Bool) (i20 : Int) (i21 : Int) (h : Heap) (Q : Kont R) : Option R := loopE (evalE M C k6x43) 3164172 1067012 ⟨(.any :: .any :: (.g [] true (.int .i64 i2) :: (.g [] true (.int .i64 i3) :: (rep 7 (.g [] true (.ptr p11) :: (.any :: .any :: (.g [] true (.bool b14) :: (rep 5 (.g [] true (.int .i64 i20) :: (.g [] true (.int .i64 i21) :: (rep 129 []))))))))))), h⟩ Q
theorem r6 (i0 : Int) (i1 : Int) (i2 : Int) (i3 : Int) (i4 : Int) (h : Heap) : runE M C c6 [(.int .i64 i0), (.int .i64 i1), (.int .i64 i2), (.int .i64 i3), (.int .i64 i4)] h = (
  (C 11 [(.int .i64 i0), (.int .i64 300)] h).bind fun r27 =>
  gI .i64 (some r27.1) true fun i27 =>
  letK ((IntKind.wrap .i64 (200 + i27)) : Int) fun i28 =>
  (C 11 [(.int .i64 i1), (.int .i64 40)] r27.2).bind fun r30 =>
  gI .i64 (some r30.1) true fun i30 =>
  letK ((IntKind.wrap .i64 (4 + i30)) : Int) fun i31 =>
  (C 10 [(.int .i64 i28), (.int .i64 8), (.int .i64 i31)] r30.2).bind fun r32 =>
  gT 2 r32.1 true fun u32 =>
  gP (some (List.getD u32 0 .opq)) true fun p32x0 =>
  gI .i64 (some (List.getD u32 1 .opq)) true fun i32x1 =>
  (C 12 [] r32.2).bind fun r35 =>
  gB (some r35.1) true fun b35 =>
  letK ((!decide ((i32x1 : Int) = 0)) : Bool) fun b39 =>
  letK ((if (!b35) = true then true else b39) : Bool) fun b40 =>
  letK ((Option.isNone p32x0) : Bool) fun b43 =>
  letK ((if b40 = true then true else b43) : Bool) fun b44 =>
  if b44 = true then
    (
    some ((.bool false), r35.2)
    )
  else
    (
    (C 11 [(.int .i64 i2), (.int .i64 15)] r35.2).bind fun r46 =>
    gI .i64 (some r46.1) true fun i46 =>
    (C 11 [(.int .i64 i3), (.int .i64 3)] r46.2).bind fun r48 =>
    gI .i64 (some r48.1) true fun i48 =>
    letK ((IntKind.wrap .i64 (1 + i48)) : Int) fun i49 =>
    (C 18 [(.ptr p32x0), (.int .i64 i46), (.int .i64 i49)] r48.2).bind fun r54 =>
    gT 2 r54.1 true fun u54 =>
    gI .i64 (some (List.getD u54 0 .opq)) true fun i54x0 =>
    gB (some (List.getD u54 1 .opq)) true fun b54x1 =>
    (C 11 [(.int .i64 i4), (.int .i64 6)] r54.2).bind fun r58 =>
    gI .i64 (some r58.1) true fun i58 =>
    L6x12 M C i46 i49 p32x0 i54x0 b54x1 i58 0 r58.2 (Q6x12 M C)
    )
  ) := by kernel_rfl
theorem cf6 : cFn Try.prog 6 = some c6 := by kernel_rfl
theorem e6 (i0 : Int) (i1 : Int) (i2 : Int) (i3 : Int) (i4 : Int) (h : Heap) : E 6 [(.int .i64 i0), (.int .i64 i1), (.int .i64 i2), (.int .i64 i3), (.int .i64 i4)] h = (
  (E 11 [(.int .i64 i0), (.int .i64 300)] h).bind fun r27 =>
  gI .i64 (some r27.1) true fun i27 =>
  letK ((IntKind.wrap .i64 (200 + i27)) : Int) fun i28 =>
  (E 11 [(.int .i64 i1), (.int .i64 40)] r27.2).bind fun r30 =>
  gI .i64 (some r30.1) true fun i30 =>
  letK ((IntKind.wrap .i64 (4 + i30)) : Int) fun i31 =>
  (E 10 [(.int .i64 i28), (.int .i64 8), (.int .i64 i31)] r30.2).bind fun r32 =>
  gT 2 r32.1 true fun u32 =>
  gP (some (List.getD u32 0 .opq)) true fun p32x0 =>
  gI .i64 (some (List.getD u32 1 .opq)) true fun i32x1 =>
  (E 12 [] r32.2).bind fun r35 =>
  gB (some r35.1) true fun b35 =>
  letK ((!decide ((i32x1 : Int) = 0)) : Bool) fun b39 =>
  letK ((if (!b35) = true then true else b39) : Bool) fun b40 =>
  letK ((Option.isNone p32x0) : Bool) fun b43 =>
  letK ((if b40 = true then true else b43) : Bool) fun b44 =>
  if b44 = true then
    (
    some ((.bool false), r35.2)
    )
  else
    (
    (E 11 [(.int .i64 i2), (.int .i64 15)] r35.2).bind fun r46 =>
    gI .i64 (some r46.1) true fun i46 =>
    (E 11 [(.int .i64 i3), (.int .i64 3)] r46.2).bind fun r48 =>
    gI .i64 (some r48.1) true fun i48 =>
    letK ((IntKind.wrap .i64 (1 + i48)) : Int) fun i49 =>
    (E 18 [(.ptr p32x0), (.int .i64 i46), (.int .i64 i49)] r48.2).bind fun r54 =>
    gT 2 r54.1 true fun u54 =>
    gI .i64 (some (List.getD u54 0 .opq)) true fun i54x0 =>
    gB (some (List.getD u54 1 .opq)) true fun b54x1 =>
    (E 11 [(.int .i64 i4), (.int .i64 6)] r54.2).bind fun r58 =>
    gI .i64 (some r58.1) true fun i58 =>
    L6x12 mk0 E i46 i49 p32x0 i54x0 b54x1 i58 0 r58.2 (Q6x12 mk0 E)
    )
  ) := (EV_eq (P := Try.prog) (T := T0) rfl cf6 [(.int .i64 i0), (.int .i64 i1), (.int .i64 i2), (.int .i64 i3), (.int .i64 i4)] h).trans (r6 mk0 E i0 i1 i2 i3 i4 h)
theorem L6x12xaux (i2 : Int) (i3 : Int) (p11 : Option Ad) (i13 : Int) (b14 : Bool) (i58 : Int) (i59 : Int) (h : Heap) (Q : Kont R) : (restrF 864691128455161868 ⟨(.any :: .any :: (.g [] true (.int .i64 i2) :: (.g [] true (.int .i64 i3) :: (rep 7 (.g [] true (.ptr p11) :: (.any :: (.g [] true (.int .i64 i13) :: (.g [] true (.bool b14) :: (rep 43 (.g [] true (.int .i64 i58) :: (.g [] true (.int .i64 i59) :: (rep 91 [])))))))))))), h⟩ fun σ => evalE M C k6x12 σ (roundQ M C k6x12 864691128455161868 26636 Q)) = (
  letK ((decide ((i59 : Int) < i58)) : Bool) fun b60 =>
  if b60 = true then
    (
    letK ((Int.tmod i59 2) : Int) fun i65 =>
    letK ((decide ((i65 : Int) = 1)) : Bool) fun b66 =>
    if b66 = true then
      (
      J6x24 M C i2 i3 p11 i13 b14 (.fn 19 [(.ptr p11)] []) i58 i59 h Q
      )
    else
      (
      J6x24 M C i2 i3 p11 i13 b14 (.fn 20 [(.ptr p11)] []) i58 i59 h Q
      )
    )
  else
    (
    Q (.exit 0) (S6xe0 i2 i3 p11 i13 b14 h)
    )
  ) := by kernel_rfl
theorem L6x12xeq (i2 : Int) (i3 : Int) (p11 : Option Ad) (i13 : Int) (b14 : Bool) (i58 : Int) (i59 : Int) (h : Heap) (Q : Kont R) : L6x12 mk0 C i2 i3 p11 i13 b14 i58 i59 h Q = (
  letK ((decide ((i59 : Int) < i58)) : Bool) fun b60 =>
  if b60 = true then
    (
    letK ((Int.tmod i59 2) : Int) fun i65 =>
    letK ((decide ((i65 : Int) = 1)) : Bool) fun b66 =>
    if b66 = true then
      (
      J6x24 mk0 C i2 i3 p11 i13 b14 (.fn 19 [(.ptr p11)] []) i58 i59 h Q
      )
    else
      (
      J6x24 mk0 C i2 i3 p11 i13 b14 (.fn 20 [(.ptr p11)] []) i58 i59 h Q
      )
    )
  else
    (
    Q (.exit 0) (S6xe0 i2 i3 p11 i13 b14 h)
    )
  ) := loop_eqn C k6x12 864691128455161868 26636 (.any :: .any :: (.g [] true (.int .i64 i2) :: (.g [] true (.int .i64 i3) :: (rep 7 (.g [] true (.ptr p11) :: (.any :: (.g [] true (.int .i64 i13) :: (.g [] true (.bool b14) :: (rep 43 (.g [] true (.int .i64 i58) :: (.g [] true (.int .i64 i59) :: (rep 91 [])))))))))))) h Q (by kernel_rfl) (L6x12xaux mk0 C i2 i3 p11 i13 b14 i58 i59 h Q)
theorem J6x24xaux (M : Mk) (C : Cal) (i2 : Int) (i3 : Int) (p11 : Option Ad) (i13 : Int) (b14 : Bool) (v16 : AV) (i58 : Int) (i59 : Int) (h : Heap) (Q : Kont R) : (forceK tk (.any :: .any :: (.g [] true (.int .i64 i2) :: (.g [] true (.int .i64 i3) :: (rep 7 (.g [] true (.ptr p11) :: (.any :: (.g [] true (.int .i64 i13) :: (.g [] true (.bool b14) :: (.any :: (.g [] true v16 :: (rep 41 (.g [] true (.int .i64 i58) :: (.g [] true (.int .i64 i59) :: (rep 91 [])))))))))))))) fun e => (seqQ (evalE M C k6x21) (blockQ 1 (seqQ (evalE M C k6x18) (seqQ (evalE M C k6x17) (roundQ M C k6x12 864691128455161868 26636 Q))))) .normal ⟨e, h⟩) = (
  newK h (.cells [(.int .i64 i13)] (.grow 1) 0) fun h_2 =>
  fnK v16 fun f73 a73 c73 =>
  (C f73 (a73 ++ [(.sl (.pos ⟨List.length h, 0, 0⟩) 1)] ++ c73) h_2).bind fun r73 =>
  gT 2 r73.1 true fun u73 =>
  gL (some (List.getD u73 0 .opq)) true fun s73x0 n73x0 =>
  gI .i64 (some (List.getD u73 1 .opq)) true fun i73x1 =>
  letK ((decide ((i73x1 : Int) = 0)) : Bool) fun b77 =>
  letK ((decide ((((n73x0 : Nat) : Int) : Int) = 1)) : Bool) fun b81 =>
  letK ((if b77 = true then b81 else false) : Bool) fun b82 =>
  if b82 = true then
    (
    chk (true = true → (0 : Int) ≤ 0 ∧ (0 : Int) < ((n73x0 : Nat) : Int)) <|
    atP (adP s73x0) true fun a84 =>
    gI .i64 (ld1 r73.2 (Ad.add a84 (Int.toNat 0 * 1))) true fun i85 =>
    J6x29 M C i2 i3 p11 i85 b14 i58 i59 r73.2 Q
    )
  else
    (
    J6x29 M C i2 i3 p11 i13 b14 i58 i59 r73.2 Q
    )
  ) := by kernel_rfl
theorem J6x24xeq (C : Cal) (i2 : Int) (i3 : Int) (p11 : Option Ad) (i13 : Int) (b14 : Bool) (v16 : AV) (i58 : Int) (i59 : Int) (h : Heap) (Q : Kont R) : J6x24 mk0 C i2 i3 p11 i13 b14 v16 i58 i59 h Q = (
  newK h (.cells [(.int .i64 i13)] (.grow 1) 0) fun h_2 =>
  fnK v16 fun f73 a73 c73 =>
  (C f73 (a73 ++ [(.sl (.pos ⟨List.length h, 0, 0⟩) 1)] ++ c73) h_2).bind fun r73 =>
  gT 2 r73.1 true fun u73 =>
  gL (some (List.getD u73 0 .opq)) true fun s73x0 n73x0 =>
  gI .i64 (some (List.getD u73 1 .opq)) true fun i73x1 =>
  letK ((decide ((i73x1 : Int) = 0)) : Bool) fun b77 =>
  letK ((decide ((((n73x0 : Nat) : Int) : Int) = 1)) : Bool) fun b81 =>
  letK ((if b77 = true then b81 else false) : Bool) fun b82 =>
  if b82 = true then
    (
    chk (true = true → (0 : Int) ≤ 0 ∧ (0 : Int) < ((n73x0 : Nat) : Int)) <|
    atP (adP s73x0) true fun a84 =>
    gI .i64 (ld1 r73.2 (Ad.add a84 (Int.toNat 0 * 1))) true fun i85 =>
    J6x29 mk0 C i2 i3 p11 i85 b14 i58 i59 r73.2 Q
    )
  else
    (
    J6x29 mk0 C i2 i3 p11 i13 b14 i58 i59 r73.2 Q
    )
  ) := join_eqn (seqQ (evalE mk0 C k6x21) (blockQ 1 (seqQ (evalE mk0 C k6x18) (seqQ (evalE mk0 C k6x17) (roundQ mk0 C k6x12 864691128455161868 26636 Q))))) (.any :: .any :: (.g [] true (.int .i64 i2) :: (.g [] true (.int .i64 i3) :: (rep 7 (.g [] true (.ptr p11) :: (.any :: (.g [] true (.int .i64 i13) :: (.g [] true (.bool b14) :: (.any :: (.g [] true v16 :: (rep 41 (.g [] true (.int .i64 i58) :: (.g [] true (.int .i64 i59) :: (rep 91 [])))))))))))))) h (J6x24xaux mk0 C i2 i3 p11 i13 b14 v16 i58 i59 h Q)
theorem J6x29xaux (M : Mk) (C : Cal) (i2 : Int) (i3 : Int) (p11 : Option Ad) (i13 : Int) (b14 : Bool) (i58 : Int) (i59 : Int) (h : Heap) (Q : Kont R) : (forceK tk (.any :: .any :: (.g [] true (.int .i64 i2) :: (.g [] true (.int .i64 i3) :: (rep 7 (.g [] true (.ptr p11) :: (.any :: (.g [] true (.int .i64 i13) :: (.g [] true (.bool b14) :: (rep 43 (.g [] true (.int .i64 i58) :: (.g [] true (.int .i64 i59) :: (rep 91 [])))))))))))) fun e => (seqQ (evalE M C k6x25) (blockQ 1 (seqQ (evalE M C k6x18) (seqQ (evalE M C k6x17) (roundQ M C k6x12 864691128455161868 26636 Q))))) .normal ⟨e, h⟩) = (
  L6x32 M C i2 i3 p11 i13 b14 0 i58 i59 h (Q6x32 M C Q)
  ) := by kernel_rfl
theorem J6x29xeq (C : Cal) (i2 : Int) (i3 : Int) (p11 : Option Ad) (i13 : Int) (b14 : Bool) (i58 : Int) (i59 : Int) (h : Heap) (Q : Kont R) : J6x29 mk0 C i2 i3 p11 i13 b14 i58 i59 h Q = (
  L6x32 mk0 C i2 i3 p11 i13 b14 0 i58 i59 h (Q6x32 mk0 C Q)
  ) := join_eqn (seqQ (evalE mk0 C k6x25) (blockQ 1 (seqQ (evalE mk0 C k6x18) (seqQ (evalE mk0 C k6x17) (roundQ mk0 C k6x12 864691128455161868 26636 Q))))) (.any :: .any :: (.g [] true (.int .i64 i2) :: (.g [] true (.int .i64 i3) :: (rep 7 (.g [] true (.ptr p11) :: (.any :: (.g [] true (.int .i64 i13) :: (.g [] true (.bool b14) :: (rep 43 (.g [] true (.int .i64 i58) :: (.g [] true (.int .i64 i59) :: (rep 91 [])))))))))))) h (J6x29xaux mk0 C i2 i3 p11 i13 b14 i58 i59 h Q)
theorem L6x32xaux (i2 : Int) (i3 : Int) (p11 : Option Ad) (i13 : Int) (b14 : Bool) (i19 : Int) (i58 : Int) (i59 : Int) (h : Heap) (Q : Kont R) : (restrF 864691128455686156 ⟨(.any :: .any :: (.g [] true (.int .i64 i2) :: (.g [] true (.int .i64 i3) :: (rep 7 (.g [] true (.ptr p11) :: (.any :: (.g [] true (.int .i64 i13) :: (.g [] true (.bool b14) :: (rep 4 (.g [] true (.int .i64 i19) :: (rep 38 (.g [] true (.int .i64 i58) :: (.g [] true (.int .i64 i59) :: (rep 91 [])))))))))))))), h⟩ fun σ => evalE M C k6x32 σ (roundQ M C k6x32 864691128455686156 864691128455161868 Q)) = (
  letK ((Int.tmod i19 3) : Int) fun i88 =>
  (C 13 [(.ptr p11), (.int .i64 i88)] h).bind fun r89 =>
  gB (some r89.1) true fun b89 =>
  letK ((decide ((i19 : Int) < 30)) : Bool) fun b92 =>
  letK ((if b89 = true then b92 else false) : Bool) fun b93 =>
  if b93 = true then
    (
    letK ((Int.tmod i19 3) : Int) fun i99 =>
    (C 14 [(.ptr p11), (.int .i64 i19), (.int .i64 i99), (.int .i64 1)] r89.2).bind fun r100 =>
    gT 2 r100.1 true fun u100 =>
    gI .i64 (some (List.getD u100 0 .opq)) true fun i100x0 =>
    gI .i64 (some (List.getD u100 1 .opq)) true fun i100x1 =>
    letK ((IntKind.wrap .i64 (i19 + 1)) : Int) fun i95 =>
    L6x32 M C i2 i3 p11 i13 b14 i95 i58 i59 r100.2 Q
    )
  else
    (
    Q (.exit 2) (S6xe2 i2 i3 p11 i13 b14 i58 i59 r89.2)
    )
  ) := by kernel_rfl
theorem L6x32xeq (i2 : Int) (i3 : Int) (p11 : Option Ad) (i13 : Int) (b14 : Bool) (i19 : Int) (i58 : Int) (i59 : Int) (h : Heap) (Q : Kont R) : L6x32 mk0 C i2 i3 p11 i13 b14 i19 i58 i59 h Q = (
  letK ((Int.tmod i19 3) : Int) fun i88 =>
  (C 13 [(.ptr p11), (.int .i64 i88)] h).bind fun r89 =>
  gB (some r89.1) true fun b89 =>
  letK ((decide ((i19 : Int) < 30)) : Bool) fun b92 =>
  letK ((if b89 = true then b92 else false) : Bool) fun b93 =>
  if b93 = true then
    (
    letK ((Int.tmod i19 3) : Int) fun i99 =>
    (C 14 [(.ptr p11), (.int .i64 i19), (.int .i64 i99), (.int .i64 1)] r89.2).bind fun r100 =>
    gT 2 r100.1 true fun u100 =>
    gI .i64 (some (List.getD u100 0 .opq)) true fun i100x0 =>
    gI .i64 (some (List.getD u100 1 .opq)) true fun i100x1 =>
    letK ((IntKind.wrap .i64 (i19 + 1)) : Int) fun i95 =>
    L6x32 mk0 C i2 i3 p11 i13 b14 i95 i58 i59 r100.2 Q
    )
  else
    (
    Q (.exit 2) (S6xe2 i2 i3 p11 i13 b14 i58 i59 r89.2)
    )
  ) := loop_eqn C k6x32 864691128455686156 864691128455161868 (.any :: .any :: (.g [] true (.int .i64 i2) :: (.g [] true (.int .i64 i3) :: (rep 7 (.g [] true (.ptr p11) :: (.any :: (.g [] true (.int .i64 i13) :: (.g [] true (.bool b14) :: (rep 4 (.g [] true (.int .i64 i19) :: (rep 38 (.g [] true (.int .i64 i58) :: (.g [] true (.int .i64 i59) :: (rep 91 [])))))))))))))) h Q (by kernel_rfl) (L6x32xaux mk0 C i2 i3 p11 i13 b14 i19 i58 i59 h Q)
theorem X6x12xe0 (M : Mk) (C : Cal) (i2 : Int) (i3 : Int) (p11 : Option Ad) (i13 : Int) (b14 : Bool) (h : Heap) : Q6x12 M C (.exit 0) (S6xe0 i2 i3 p11 i13 b14 h) = (
  L6x43 M C i2 i3 p11 b14 0 i13 h (Q6x43 M C)
  ) := by kernel_rfl
theorem L6x43xaux (i2 : Int) (i3 : Int) (p11 : Option Ad) (b14 : Bool) (i20 : Int) (i21 : Int) (h : Heap) (Q : Kont R) : (restrF 3164172 ⟨(.any :: .any :: (.g [] true (.int .i64 i2) :: (.g [] true (.int .i64 i3) :: (rep 7 (.g [] true (.ptr p11) :: (.any :: .any :: (.g [] true (.bool b14) :: (rep 5 (.g [] true (.int .i64 i20) :: (.g [] true (.int .i64 i21) :: (rep 129 []))))))))))), h⟩ fun σ => evalE M C k6x43 σ (roundQ M C k6x43 3164172 1067012 Q)) = (
  letK ((Int.tmod i21 2) : Int) fun i104 =>
  letK ((decide ((i104 : Int) = 0)) : Bool) fun b105 =>
  letK ((decide ((i20 : Int) ≤ i2)) : Bool) fun b109 =>
  letK ((if b105 = true then b109 else false) : Bool) fun b110 =>
  if b110 = true then
    (
    (C 15 [(.ptr p11), (.int .i64 i21)] h).bind fun r116 =>
    gT 3 r116.1 true fun u116 =>
    gI .i64 (some (List.getD u116 0 .opq)) true fun i116x0 =>
    gI .i64 (some (List.getD u116 1 .opq)) true fun i116x1 =>
    gI .i64 (some (List.getD u116 2 .opq)) true fun i116x2 =>
    letK ((!decide ((i116x2 : Int) = 0)) : Bool) fun b121 =>
    letK ((!decide ((i116x0 : Int) = 1)) : Bool) fun b124 =>
    letK ((if b121 = true then true else b124) : Bool) fun b125 =>
    letK ((!decide ((i116x1 : Int) = i3)) : Bool) fun b129 =>
    letK ((if b125 = true then true else b129) : Bool) fun b130 =>
    if b130 = true then
      (
      Q .ret (S6xr false r116.2)
      )
    else
      (
      letK ((IntKind.wrap .i64 (i21 + 2)) : Int) fun i134 =>
      (C 22 [(.ptr p11), (.int .i64 i134)] r116.2).bind fun r135 =>
      gT 2 r135.1 true fun u135 =>
      gI .i64 (some (List.getD u135 0 .opq)) true fun i135x0 =>
      gI .i64 (some (List.getD u135 1 .opq)) true fun i135x1 =>
      letK ((!decide ((i135x1 : Int) = 0)) : Bool) fun b139 =>
      if b139 = true then
        (
        Q .ret (S6xr false r135.2)
        )
      else
        (
        letK ((IntKind.wrap .i64 (i20 + 1)) : Int) fun i112 =>
        L6x43 M C i2 i3 p11 b14 i112 i135x0 r135.2 Q
        )
      )
    )
  else
    (
    Q (.exit 4) (S6xe4 i2 p11 b14 i20 h)
    )
  ) := by kernel_rfl
theorem L6x43xeq (i2 : Int) (i3 : Int) (p11 : Option Ad) (b14 : Bool) (i20 : Int) (i21 : Int) (h : Heap) (Q : Kont R) : L6x43 mk0 C i2 i3 p11 b14 i20 i21 h Q = (
  letK ((Int.tmod i21 2) : Int) fun i104 =>
  letK ((decide ((i104 : Int) = 0)) : Bool) fun b105 =>
  letK ((decide ((i20 : Int) ≤ i2)) : Bool) fun b109 =>
  letK ((if b105 = true then b109 else false) : Bool) fun b110 =>
  if b110 = true then
    (
    (C 15 [(.ptr p11), (.int .i64 i21)] h).bind fun r116 =>
    gT 3 r116.1 true fun u116 =>
    gI .i64 (some (List.getD u116 0 .opq)) true fun i116x0 =>
    gI .i64 (some (List.getD u116 1 .opq)) true fun i116x1 =>
    gI .i64 (some (List.getD u116 2 .opq)) true fun i116x2 =>
    letK ((!decide ((i116x2 : Int) = 0)) : Bool) fun b121 =>
    letK ((!decide ((i116x0 : Int) = 1)) : Bool) fun b124 =>
    letK ((if b121 = true then true else b124) : Bool) fun b125 =>
    letK ((!decide ((i116x1 : Int) = i3)) : Bool) fun b129 =>
    letK ((if b125 = true then true else b129) : Bool) fun b130 =>
    if b130 = true then
      (
      Q .ret (S6xr false r116.2)
      )
    else
      (
      letK ((IntKind.wrap .i64 (i21 + 2)) : Int) fun i134 =>
      (C 22 [(.ptr p11), (.int .i64 i134)] r116.2).bind fun r135 =>
      gT 2 r135.1 true fun u135 =>
      gI .i64 (some (List.getD u135 0 .opq)) true fun i135x0 =>
      gI .i64 (some (List.getD u135 1 .opq)) true fun i135x1 =>
      letK ((!decide ((i135x1 : Int) = 0)) : Bool) fun b139 =>
      if b139 = true then
        (
        Q .ret (S6xr false r135.2)
        )
      else
        (
        letK ((IntKind.wrap .i64 (i20 + 1)) : Int) fun i112 =>
        L6x43 mk0 C i2 i3 p11 b14 i112 i135x0 r135.2 Q
        )
      )
    )
  else
    (
    Q (.exit 4) (S6xe4 i2 p11 b14 i20 h)
    )
  ) := loop_eqn C k6x43 3164172 1067012 (.any :: .any :: (.g [] true (.int .i64 i2) :: (.g [] true (.int .i64 i3) :: (rep 7 (.g [] true (.ptr p11) :: (.any :: .any :: (.g [] true (.bool b14) :: (rep 5 (.g [] true (.int .i64 i20) :: (.g [] true (.int .i64 i21) :: (rep 129 []))))))))))) h Q (by kernel_rfl) (L6x43xaux mk0 C i2 i3 p11 b14 i20 i21 h Q)
theorem X6x32xe2 (M : Mk) (C : Cal) (i2 : Int) (i3 : Int) (p11 : Option Ad) (i13 : Int) (b14 : Bool) (i58 : Int) (i59 : Int) (h : Heap) (Q : Kont R) : Q6x32 M C Q (.exit 2) (S6xe2 i2 i3 p11 i13 b14 i58 i59 h) = (
  letK ((IntKind.wrap .i64 (i59 + 1)) : Int) fun i101 =>
  L6x12 M C i2 i3 p11 i13 b14 i58 i101 h Q
  ) := by kernel_rfl
theorem X6x43xr (M : Mk) (C : Cal) (b10 : Bool) (h : Heap) : Q6x43 M C .ret (S6xr b10 h) = (
  some ((.bool b10), h)
  ) := by kernel_rfl
theorem X6x43xe4 (M : Mk) (C : Cal) (i2 : Int) (p11 : Option Ad) (b14 : Bool) (i20 : Int) (h : Heap) : Q6x43 M C (.exit 4) (S6xe4 i2 p11 b14 i20 h) = (
  (C 17 [(.ptr p11)] h).bind fun r141 =>
  gB (some r141.1) true fun b141 =>
  letK ((decide ((i20 : Int) = i2)) : Bool) fun b148 =>
  letK ((if (!b14) = true then true else b148) : Bool) fun b149 =>
  letK ((if b141 = true then b149 else false) : Bool) fun b150 =>
  some ((.bool b150), r141.2)
  ) := by kernel_rfl
end
end Go.Proofs.Ytecgpcpgklholaa.K
