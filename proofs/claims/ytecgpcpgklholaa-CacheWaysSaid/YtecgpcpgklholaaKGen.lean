/- Parts of the proof, printed. -/
import Derived.Test.YtecgpcpgklholaaLibD
import Derived.Test.YtecgpcpgklholaaProg
import Derived.KernelRfl
set_option linter.unusedVariables false
set_option maxRecDepth 100000
namespace Go.Proofs.Ytecgpcpgklholaa.K
open Go Go.Proofs.Ytecgpcpgklholaa.Abs Go.Proofs
abbrev rep (n : Nat) (l : List SV) : List SV := List.replicate n .any ++ l
noncomputable def T0 : Prims := fun _ => none
noncomputable def E : Cal := EV Try.prog T0
section
variable {R : Type} (M : Mk) (C : Cal)
def k26x2 : AC := .ret
def k26x1 : AC := .seq (.mask 64) k26x2
def k26x0 : AC := .seq (.ops true [
    ⟨(some 7), .move (.tmp 0), none, []⟩,
    ⟨(some 8), .move (.tmp 1), none, []⟩,
    ⟨(some 9), .bin .other .geq (.tmp 7) (.tmp 8), none, []⟩,
    ⟨(some 10), .move (.tmp 9), none, []⟩,
    ⟨(some 11), .move (.tmp 0), (some (10, true)), []⟩,
    ⟨(some 12), .move (.tmp 2), (some (10, true)), []⟩,
    ⟨(some 13), .bin .other .leq (.tmp 11) (.tmp 12), (some (10, true)), []⟩,
    ⟨(some 14), .pick (.tmp 10) (.tmp 13) (.c (.bool false)), none, []⟩,
    ⟨(some 6), .move (.tmp 14), none, []⟩]) k26x1
/-- provenance/heap.in -/
def c26 : AFn := ⟨15, [.tmp 6],
  .seq (.ops false [
    ⟨(some 6), .move (.c (.bool false)), none, []⟩]) k26x0⟩
theorem r26 (i0 : Int) (i1 : Int) (i2 : Int) (h : Heap) : runE M C c26 [(.int .i64 i0), (.int .i64 i1), (.int .i64 i2)] h = (
  letK ((decide ((i1 : Int) ≤ i0)) : Bool) fun b9 =>
  letK ((decide ((i0 : Int) ≤ i2)) : Bool) fun b13 =>
  letK ((if b9 = true then b13 else false) : Bool) fun b14 =>
  some ((.bool b14), h)
  ) := by kernel_rfl
theorem cf26 : cFn Try.prog 26 = some c26 := by kernel_rfl
theorem e26 (i0 : Int) (i1 : Int) (i2 : Int) (h : Heap) : E 26 [(.int .i64 i0), (.int .i64 i1), (.int .i64 i2)] h = (
  letK ((decide ((i1 : Int) ≤ i0)) : Bool) fun b9 =>
  letK ((decide ((i0 : Int) ≤ i2)) : Bool) fun b13 =>
  letK ((if b9 = true then b13 else false) : Bool) fun b14 =>
  some ((.bool b14), h)
  ) := (EV_eq (P := Try.prog) (T := T0) rfl cf26 [(.int .i64 i0), (.int .i64 i1), (.int .i64 i2)] h).trans (r26 mk0 E i0 i1 i2 h)
def k27x6 : AC := .ret
def k27x5 : AC := .seq (.mask 16) k27x6
def k27x4 : AC := .mask 1
def k27x3 : AC := .seq (.cond (.tmp 9)
   (.seq (.ops false [
      ⟨(some 10), .move (.tmp 0), none, []⟩,
      ⟨(some 11), .move (.tmp 1), none, []⟩,
      ⟨(some 12), .bin .other .add (.tmp 10) (.tmp 11), none, []⟩,
      ⟨(some 4), .move (.tmp 12), none, []⟩]) k27x5)
   (.skip)) k27x4
def k27x8 : AC := .ret
def k27x7 : AC := .seq (.mask 16) k27x8
def k27x2 : AC := .seq (.ops false [
    ⟨(some 13), .move (.tmp 0), none, []⟩,
    ⟨(some 4), .move (.tmp 13), none, []⟩]) k27x7
def k27x1 : AC := .seq (.seq (.ops false [
    ⟨(some 8), .move (.tmp 0), none, []⟩,
    ⟨(some 9), .bin .other .lss (.tmp 8) (.c (.int .i64 0)), none, []⟩]) k27x3) k27x2
def k27x0 : AC := .seq (.ops false [
    ⟨(some 5), .move (.tmp 0), none, []⟩,
    ⟨(some 6), .move (.tmp 1), none, []⟩,
    ⟨(some 7), .bin .other .rem (.tmp 5) (.tmp 6), none, []⟩,
    ⟨(some 0), .move (.tmp 7), none, []⟩]) k27x1
/-- provenance/provenanceref4.modulo -/
def c27 : AFn := ⟨14, [.tmp 4],
  .seq (.ops false [
    ⟨(some 4), .move (.c (.int .i64 0)), none, []⟩]) k27x0⟩
theorem r27 (i0 : Int) (i1 : Int) (h : Heap) : runE M C c27 [(.int .i64 i0), (.int .i64 i1)] h = (
  chk (true = true → (i1 : Int) ≠ 0) <|
  letK ((Int.tmod i0 i1) : Int) fun i7 =>
  letK ((decide ((i7 : Int) < 0)) : Bool) fun b9 =>
  if b9 = true then
    (
    letK ((IntKind.wrap .i64 (i7 + i1)) : Int) fun i12 =>
    some ((.int .i64 i12), h)
    )
  else
    (
    some ((.int .i64 i7), h)
    )
  ) := by kernel_rfl
theorem cf27 : cFn Try.prog 27 = some c27 := by kernel_rfl
theorem e27 (i0 : Int) (i1 : Int) (h : Heap) : E 27 [(.int .i64 i0), (.int .i64 i1)] h = (
  chk (true = true → (i1 : Int) ≠ 0) <|
  letK ((Int.tmod i0 i1) : Int) fun i7 =>
  letK ((decide ((i7 : Int) < 0)) : Bool) fun b9 =>
  if b9 = true then
    (
    letK ((IntKind.wrap .i64 (i7 + i1)) : Int) fun i12 =>
    some ((.int .i64 i12), h)
    )
  else
    (
    some ((.int .i64 i7), h)
    )
  ) := (EV_eq (P := Try.prog) (T := T0) rfl cf27 [(.int .i64 i0), (.int .i64 i1)] h).trans (r27 mk0 E i0 i1 h)
def k11x2 : AC := .ret
def k11x1 : AC := .seq (.mask 16) k11x2
def k11x0 : AC := .seq (.ops false [
    ⟨(some 5), .move (.tmp 0), none, []⟩,
    ⟨(some 6), .move (.tmp 1), none, []⟩,
    ⟨(some 7), .call 27 [(.tmp 5), (.tmp 6)] [(.cell (.int .i64))] (.int .i64 0), none, []⟩,
    ⟨(some 4), .move (.tmp 7), none, []⟩]) k11x1
/-- provenance/provenanceref4.Rest -/
def c11 : AFn := ⟨8, [.tmp 4],
  .seq (.ops false [
    ⟨(some 4), .move (.c (.int .i64 0)), none, []⟩]) k11x0⟩
theorem r11 (i0 : Int) (i1 : Int) (h : Heap) : runE M C c11 [(.int .i64 i0), (.int .i64 i1)] h = (
  (C 27 [(.int .i64 i0), (.int .i64 i1)] h).bind fun r7 =>
  gI .i64 (some r7.1) true fun i7 =>
  some ((.int .i64 i7), r7.2)
  ) := by kernel_rfl
theorem cf11 : cFn Try.prog 11 = some c11 := by kernel_rfl
theorem e11 (i0 : Int) (i1 : Int) (h : Heap) : E 11 [(.int .i64 i0), (.int .i64 i1)] h = (
  (E 27 [(.int .i64 i0), (.int .i64 i1)] h).bind fun r7 =>
  gI .i64 (some r7.1) true fun i7 =>
  some ((.int .i64 i7), r7.2)
  ) := (EV_eq (P := Try.prog) (T := T0) rfl cf11 [(.int .i64 i0), (.int .i64 i1)] h).trans (r11 mk0 E i0 i1 h)
def k28x2 : AC := .ret
def k28x1 : AC := .seq (.mask 16) k28x2
def k28x0 : AC := .seq (.ops false [
    ⟨(some 5), .move (.tmp 0), none, []⟩,
    ⟨(some 6), .bin .other .mul (.tmp 5) (.c (.int .i64 4096)), none, []⟩,
    ⟨(some 7), .move (.tmp 1), none, []⟩,
    ⟨(some 8), .bin .other .add (.tmp 6) (.tmp 7), none, []⟩,
    ⟨(some 9), .bin .other .mul (.tmp 8) (.c (.int .i64 2)), none, []⟩,
    ⟨(some 10), .bin .other .add (.tmp 9) (.c (.int .i64 1)), none, []⟩,
    ⟨(some 4), .move (.tmp 10), none, []⟩]) k28x1
/-- provenance/heap.Header -/
def c28 : AFn := ⟨11, [.tmp 4],
  .seq (.ops false [
    ⟨(some 4), .move (.c (.int .i64 0)), none, []⟩]) k28x0⟩
theorem r28 (i0 : Int) (i1 : Int) (h : Heap) : runE M C c28 [(.int .i64 i0), (.int .i64 i1)] h = (
  letK ((IntKind.wrap .i64 (i0 * 4096)) : Int) fun i6 =>
  letK ((IntKind.wrap .i64 (i6 + i1)) : Int) fun i8 =>
  letK ((IntKind.wrap .i64 (i8 * 2)) : Int) fun i9 =>
  letK ((IntKind.wrap .i64 (i9 + 1)) : Int) fun i10 =>
  some ((.int .i64 i10), h)
  ) := by kernel_rfl
theorem cf28 : cFn Try.prog 28 = some c28 := by kernel_rfl
theorem e28 (i0 : Int) (i1 : Int) (h : Heap) : E 28 [(.int .i64 i0), (.int .i64 i1)] h = (
  letK ((IntKind.wrap .i64 (i0 * 4096)) : Int) fun i6 =>
  letK ((IntKind.wrap .i64 (i6 + i1)) : Int) fun i8 =>
  letK ((IntKind.wrap .i64 (i8 * 2)) : Int) fun i9 =>
  letK ((IntKind.wrap .i64 (i9 + 1)) : Int) fun i10 =>
  some ((.int .i64 i10), h)
  ) := (EV_eq (P := Try.prog) (T := T0) rfl cf28 [(.int .i64 i0), (.int .i64 i1)] h).trans (r28 mk0 E i0 i1 h)
def k31x4 : AC := .ret
def k31x3 : AC := .seq (.mask 28) k31x4
def k31x2 : AC := .seq (.ops true [
    ⟨(some 14), .move (.tmp 6), none, []⟩,
    ⟨(some 15), .move (.tmp 7), none, []⟩,
    ⟨(some 16), .move (.tmp 0), none, []⟩,
    ⟨(some 17), .bin .other .and (.tmp 16) (.c (.int .i64 1)), none, []⟩,
    ⟨(some 18), .bin .other .eql (.tmp 17) (.c (.int .i64 1)), none, []⟩,
    ⟨(some 19), .move (.tmp 18), none, []⟩,
    ⟨(some 20), .move (.tmp 6), (some (19, true)), []⟩,
    ⟨(some 21), .call 26 [(.tmp 20), (.c (.int .i64 0)), (.c (.int .i64 258))] [(.cell .bool)] (.bool false), (some (19, true)), []⟩,
    ⟨(some 22), .pick (.tmp 19) (.tmp 21) (.c (.bool false)), none, []⟩,
    ⟨(some 2), .move (.tmp 14), none, []⟩,
    ⟨(some 3), .move (.tmp 15), none, []⟩,
    ⟨(some 4), .move (.tmp 22), none, []⟩]) k31x3
def k31x1 : AC := .seq (.ops false [
    ⟨(some 10), .move (.tmp 5), none, []⟩,
    ⟨(some 11), .bin .other .shr (.tmp 10) (.c (.int .u64 12)), none, []⟩,
    ⟨(some 12), .move (.tmp 5), none, []⟩,
    ⟨(some 13), .bin .other .and (.tmp 12) (.c (.int .i64 4095)), none, []⟩,
    ⟨(some 6), .move (.tmp 11), none, []⟩,
    ⟨(some 7), .move (.tmp 13), none, []⟩]) k31x2
def k31x0 : AC := .seq (.ops false [
    ⟨(some 8), .move (.tmp 0), none, []⟩,
    ⟨(some 9), .bin .other .shr (.tmp 8) (.c (.int .u64 1)), none, []⟩,
    ⟨(some 5), .move (.tmp 9), none, []⟩]) k31x1
/-- provenance/heap.Split -/
def c31 : AFn := ⟨23, [.tmp 2, .tmp 3, .tmp 4],
  .seq (.ops false [
    ⟨(some 2), .move (.c (.int .i64 0)), none, []⟩,
    ⟨(some 3), .move (.c (.int .i64 0)), none, []⟩,
    ⟨(some 4), .move (.c (.bool false)), none, []⟩]) k31x0⟩
theorem r31 (i0 : Int) (h : Heap) : runE M C c31 [(.int .i64 i0)] h = (
  letK ((Int.fdiv i0 (2 ^ 1)) : Int) fun i9 =>
  letK ((Int.fdiv i9 (2 ^ 12)) : Int) fun i11 =>
  letK ((Go.bits .and .i64 i9 4095) : Int) fun i13 =>
  letK ((Go.bits .and .i64 i0 1) : Int) fun i17 =>
  letK ((decide ((i17 : Int) = 1)) : Bool) fun b18 =>
  (callO b18 (C 26 [(.int .i64 i11), (.int .i64 0), (.int .i64 258)] h) (.bool false) h).bind fun r21 =>
  gB (some r21.1) b18 fun b21 =>
  letK ((if b18 = true then b21 else false) : Bool) fun b22 =>
  some (.tup [(.int .i64 i11), (.int .i64 i13), (.bool b22)], r21.2)
  ) := by kernel_rfl
theorem cf31 : cFn Try.prog 31 = some c31 := by kernel_rfl
theorem e31 (i0 : Int) (h : Heap) : E 31 [(.int .i64 i0)] h = (
  letK ((Int.fdiv i0 (2 ^ 1)) : Int) fun i9 =>
  letK ((Int.fdiv i9 (2 ^ 12)) : Int) fun i11 =>
  letK ((Go.bits .and .i64 i9 4095) : Int) fun i13 =>
  letK ((Go.bits .and .i64 i0 1) : Int) fun i17 =>
  letK ((decide ((i17 : Int) = 1)) : Bool) fun b18 =>
  (callO b18 (E 26 [(.int .i64 i11), (.int .i64 0), (.int .i64 258)] h) (.bool false) h).bind fun r21 =>
  gB (some r21.1) b18 fun b21 =>
  letK ((if b18 = true then b21 else false) : Bool) fun b22 =>
  some (.tup [(.int .i64 i11), (.int .i64 i13), (.bool b22)], r21.2)
  ) := (EV_eq (P := Try.prog) (T := T0) rfl cf31 [(.int .i64 i0)] h).trans (r31 mk0 E i0 h)
def k10x5 : AC := .ret
def k10x4 : AC := .seq (.mask 192) k10x5
def k10x3 : AC := .mask 7
def k10x2 : AC := .seq (.cond (.tmp 27)
   (.seq (.ops false [
      ⟨(some 6), .move (.c (.ptr none)), none, []⟩,
      ⟨(some 7), .move (.c (.int .i64 4)), none, []⟩]) k10x4)
   (.skip)) k10x3
def k10x10 : AC := .ret
def k10x9 : AC := .seq (.mask 192) k10x10
def k10x8 : AC := .seq (.ops false [
    ⟨(some 59), .move (.tmp 8), none, []⟩,
    ⟨(some 6), .move (.tmp 59), none, []⟩,
    ⟨(some 7), .move (.c (.int .i64 0)), none, []⟩]) k10x9
def k10x7 : AC := .seq (.ops false [
    ⟨(some 52), .move (.tmp 8), none, []⟩,
    ⟨(some 53), .move (.tmp 8), none, []⟩,
    ⟨(some 54), .nilCheck (.tmp 53), none, []⟩,
    ⟨(some 55), .fieldAddr 5 (.tmp 54), none, []⟩,
    ⟨(some 56), .load (.cell (.int .i64)) (.tmp 55), none, []⟩,
    ⟨(some 57), .nilCheck (.tmp 52), none, []⟩,
    ⟨(some 58), .fieldAddr 6 (.tmp 57), none, []⟩,
    ⟨none, .store 1 (.tmp 58) (.tmp 56), none, []⟩]) k10x8
def k10x6 : AC := .seq (.ops false [
    ⟨(some 39), .move (.tmp 8), none, []⟩,
    ⟨(some 40), .move (.tmp 8), none, []⟩,
    ⟨(some 41), .nilCheck (.tmp 40), none, []⟩,
    ⟨(some 42), .fieldAddr 1 (.tmp 41), none, []⟩,
    ⟨(some 43), .load (.cell (.int .i64)) (.tmp 42), none, []⟩,
    ⟨(some 44), .move (.tmp 8), none, []⟩,
    ⟨(some 45), .nilCheck (.tmp 44), none, []⟩,
    ⟨(some 46), .fieldAddr 2 (.tmp 45), none, []⟩,
    ⟨(some 47), .load (.cell (.int .i64)) (.tmp 46), none, []⟩,
    ⟨(some 48), .bin .other .sub (.tmp 43) (.tmp 47), none, []⟩,
    ⟨(some 49), .bin .other .quo (.tmp 48) (.c (.int .i64 2)), none, []⟩,
    ⟨(some 50), .nilCheck (.tmp 39), none, []⟩,
    ⟨(some 51), .fieldAddr 4 (.tmp 50), none, []⟩,
    ⟨none, .store 1 (.tmp 51) (.tmp 49), none, []⟩]) k10x7
def k10x1 : AC := .seq (.ops false [
    ⟨(some 28), .move (.tmp 0), none, []⟩,
    ⟨(some 29), .makeSl [(.int .i64 0)] 8 (.tmp 28) (.tmp 28), none, []⟩,
    ⟨(some 30), .move (.tmp 0), none, []⟩,
    ⟨(some 31), .move (.tmp 1), none, []⟩,
    ⟨(some 32), .bin .other .sub (.tmp 30) (.tmp 31), none, []⟩,
    ⟨(some 33), .move (.tmp 2), none, []⟩,
    ⟨(some 34), .bin .other .add (.c (.int .i64 1)) (.tmp 33), none, []⟩,
    ⟨(some 35), .move (.tmp 2), none, []⟩,
    ⟨(some 36), .bin .other .add (.c (.int .i64 1)) (.tmp 35), none, []⟩,
    ⟨(some 37), .build [(.sl .nil 0), (.int .i64 0), (.int .i64 0), (.int .i64 0), (.int .i64 0), (.int .i64 0), (.int .i64 0), (.sl .nil 0)] [(0, 1, (.tmp 29)), (1, 1, (.tmp 32)), (2, 1, (.tmp 34)), (3, 1, (.c (.int .i64 1))), (5, 1, (.tmp 36))], none, []⟩,
    ⟨(some 38), .boxH (.tmp 37), none, []⟩,
    ⟨(some 8), .move (.tmp 38), none, []⟩]) k10x6
def k10x0 : AC := .seq (.seq (.ops true [
    ⟨(some 9), .move (.tmp 0), none, []⟩,
    ⟨(some 10), .call 26 [(.tmp 9), (.c (.int .i64 32)), (.c (.int .i64 65536))] [(.cell .bool)] (.bool false), none, []⟩,
    ⟨(some 11), .un .not (.tmp 10), none, []⟩,
    ⟨(some 12), .move (.tmp 11), none, []⟩,
    ⟨(some 13), .move (.tmp 1), (some (12, false)), []⟩,
    ⟨(some 14), .move (.tmp 0), (some (12, false)), []⟩,
    ⟨(some 15), .bin .other .quo (.tmp 14) (.c (.int .i64 2)), (some (12, false)), []⟩,
    ⟨(some 16), .call 26 [(.tmp 13), (.c (.int .i64 4)), (.tmp 15)] [(.cell .bool)] (.bool false), (some (12, false)), []⟩,
    ⟨(some 17), .un .not (.tmp 16), (some (12, false)), []⟩,
    ⟨(some 18), .pick (.tmp 12) (.c (.bool true)) (.tmp 17), none, []⟩,
    ⟨(some 19), .move (.tmp 18), none, []⟩,
    ⟨(some 20), .move (.tmp 2), (some (19, false)), []⟩,
    ⟨(some 21), .move (.tmp 0), (some (19, false)), []⟩,
    ⟨(some 22), .move (.tmp 1), (some (19, false)), []⟩,
    ⟨(some 23), .bin .other .sub (.tmp 21) (.tmp 22), (some (19, false)), []⟩,
    ⟨(some 24), .bin .other .quo (.tmp 23) (.c (.int .i64 2)), (some (19, false)), []⟩,
    ⟨(some 25), .call 26 [(.tmp 20), (.c (.int .i64 4)), (.tmp 24)] [(.cell .bool)] (.bool false), (some (19, false)), []⟩,
    ⟨(some 26), .un .not (.tmp 25), (some (19, false)), []⟩,
    ⟨(some 27), .pick (.tmp 19) (.c (.bool true)) (.tmp 26), none, []⟩]) k10x2) k10x1
/-- provenance/heap.New -/
def c10 : AFn := ⟨60, [.tmp 6, .tmp 7],
  .seq (.ops false [
    ⟨(some 6), .move (.c (.ptr none)), none, []⟩,
    ⟨(some 7), .move (.c (.int .i64 0)), none, []⟩]) k10x0⟩
theorem r10 (i0 : Int) (i1 : Int) (i2 : Int) (h : Heap) : runE M C c10 [(.int .i64 i0), (.int .i64 i1), (.int .i64 i2)] h = (
  (C 26 [(.int .i64 i0), (.int .i64 32), (.int .i64 65536)] h).bind fun r10 =>
  gB (some r10.1) true fun b10 =>
  chk ((!(!b10)) = true → (2 : Int) ≠ 0) <|
  letK ((IntKind.wrap .i64 (Int.tdiv i0 2)) : Int) fun i15 =>
  (callO (!(!b10)) (C 26 [(.int .i64 i1), (.int .i64 4), (.int .i64 i15)] r10.2) (.bool false) r10.2).bind fun r16 =>
  gB (some r16.1) (!(!b10)) fun b16 =>
  letK ((if (!b10) = true then true else (!b16)) : Bool) fun b18 =>
  letK ((IntKind.wrap .i64 (i0 - i1)) : Int) fun i23 =>
  chk ((!b18) = true → (2 : Int) ≠ 0) <|
  letK ((IntKind.wrap .i64 (Int.tdiv i23 2)) : Int) fun i24 =>
  (callO (!b18) (C 26 [(.int .i64 i2), (.int .i64 4), (.int .i64 i24)] r16.2) (.bool false) r16.2).bind fun r25 =>
  gB (some r25.1) (!b18) fun b25 =>
  letK ((if b18 = true then true else (!b25)) : Bool) fun b27 =>
  if b27 = true then
    (
    some (.tup [(.ptr none), (.int .i64 4)], r25.2)
    )
  else
    (
    chk ((0 : Int) ≤ i0 ∧ (i0 : Int) ≤ i0 ∧ i0 * ((8 : Nat) : Int) ≤ 70368744177664) <|
    newK r25.2 (.cells (repl (Int.toNat i0) [(.int .i64 0)]) (.grow 1) 0) fun h_2 =>
    letK ((IntKind.wrap .i64 (i0 - i1)) : Int) fun i32 =>
    letK ((IntKind.wrap .i64 (1 + i2)) : Int) fun i34 =>
    letK ((IntKind.wrap .i64 (1 + i2)) : Int) fun i36 =>
    newK h_2 (.cells [(.sl (.pos ⟨List.length r25.2, 0, 0⟩) (Int.toNat i0)), (.int .i64 i32), (.int .i64 i34), (.int .i64 1), (.int .i64 0), (.int .i64 i36), (.int .i64 0), (.sl .nil 0)] .fix 0) fun h_3 =>
    gI .i64 (ld1 h_3 (Ad.add ⟨List.length h_2, 0, 0⟩ 1)) true fun i43 =>
    gI .i64 (ld1 h_3 (Ad.add ⟨List.length h_2, 0, 0⟩ 2)) true fun i47 =>
    letK ((IntKind.wrap .i64 (i43 - i47)) : Int) fun i48 =>
    letK ((IntKind.wrap .i64 (Int.tdiv i48 2)) : Int) fun i49 =>
    (st1 h_3 (Ad.add ⟨List.length h_2, 0, 0⟩ 4) (.int .i64 i49)).bind fun h_4 =>
    gI .i64 (ld1 h_4 (Ad.add ⟨List.length h_2, 0, 0⟩ 5)) true fun i56 =>
    (st1 h_4 (Ad.add ⟨List.length h_2, 0, 0⟩ 6) (.int .i64 i56)).bind fun h_5 =>
    some (.tup [(.ptr (some ⟨List.length h_2, 0, 0⟩)), (.int .i64 0)], h_5)
    )
  ) := by kernel_rfl
theorem cf10 : cFn Try.prog 10 = some c10 := by kernel_rfl
theorem e10 (i0 : Int) (i1 : Int) (i2 : Int) (h : Heap) : E 10 [(.int .i64 i0), (.int .i64 i1), (.int .i64 i2)] h = (
  (E 26 [(.int .i64 i0), (.int .i64 32), (.int .i64 65536)] h).bind fun r10 =>
  gB (some r10.1) true fun b10 =>
  chk ((!(!b10)) = true → (2 : Int) ≠ 0) <|
  letK ((IntKind.wrap .i64 (Int.tdiv i0 2)) : Int) fun i15 =>
  (callO (!(!b10)) (E 26 [(.int .i64 i1), (.int .i64 4), (.int .i64 i15)] r10.2) (.bool false) r10.2).bind fun r16 =>
  gB (some r16.1) (!(!b10)) fun b16 =>
  letK ((if (!b10) = true then true else (!b16)) : Bool) fun b18 =>
  letK ((IntKind.wrap .i64 (i0 - i1)) : Int) fun i23 =>
  chk ((!b18) = true → (2 : Int) ≠ 0) <|
  letK ((IntKind.wrap .i64 (Int.tdiv i23 2)) : Int) fun i24 =>
  (callO (!b18) (E 26 [(.int .i64 i2), (.int .i64 4), (.int .i64 i24)] r16.2) (.bool false) r16.2).bind fun r25 =>
  gB (some r25.1) (!b18) fun b25 =>
  letK ((if b18 = true then true else (!b25)) : Bool) fun b27 =>
  if b27 = true then
    (
    some (.tup [(.ptr none), (.int .i64 4)], r25.2)
    )
  else
    (
    chk ((0 : Int) ≤ i0 ∧ (i0 : Int) ≤ i0 ∧ i0 * ((8 : Nat) : Int) ≤ 70368744177664) <|
    newK r25.2 (.cells (repl (Int.toNat i0) [(.int .i64 0)]) (.grow 1) 0) fun h_2 =>
    letK ((IntKind.wrap .i64 (i0 - i1)) : Int) fun i32 =>
    letK ((IntKind.wrap .i64 (1 + i2)) : Int) fun i34 =>
    letK ((IntKind.wrap .i64 (1 + i2)) : Int) fun i36 =>
    newK h_2 (.cells [(.sl (.pos ⟨List.length r25.2, 0, 0⟩) (Int.toNat i0)), (.int .i64 i32), (.int .i64 i34), (.int .i64 1), (.int .i64 0), (.int .i64 i36), (.int .i64 0), (.sl .nil 0)] .fix 0) fun h_3 =>
    gI .i64 (ld1 h_3 (Ad.add ⟨List.length h_2, 0, 0⟩ 1)) true fun i43 =>
    gI .i64 (ld1 h_3 (Ad.add ⟨List.length h_2, 0, 0⟩ 2)) true fun i47 =>
    letK ((IntKind.wrap .i64 (i43 - i47)) : Int) fun i48 =>
    letK ((IntKind.wrap .i64 (Int.tdiv i48 2)) : Int) fun i49 =>
    (st1 h_3 (Ad.add ⟨List.length h_2, 0, 0⟩ 4) (.int .i64 i49)).bind fun h_4 =>
    gI .i64 (ld1 h_4 (Ad.add ⟨List.length h_2, 0, 0⟩ 5)) true fun i56 =>
    (st1 h_4 (Ad.add ⟨List.length h_2, 0, 0⟩ 6) (.int .i64 i56)).bind fun h_5 =>
    some (.tup [(.ptr (some ⟨List.length h_2, 0, 0⟩)), (.int .i64 0)], h_5)
    )
  ) := (EV_eq (P := Try.prog) (T := T0) rfl cf10 [(.int .i64 i0), (.int .i64 i1), (.int .i64 i2)] h).trans (r10 mk0 E i0 i1 i2 h)
def k13x5 : AC := .ret
def k13x4 : AC := .seq (.mask 16) k13x5
def k13x3 : AC := .mask 3
def k13x2 : AC := .seq (.cond (.tmp 12)
   (.seq (.ops false [
      ⟨(some 13), .move (.tmp 0), none, []⟩,
      ⟨(some 14), .nilCheck (.tmp 13), none, []⟩,
      ⟨(some 15), .fieldAddr 6 (.tmp 14), none, []⟩,
      ⟨(some 16), .load (.cell (.int .i64)) (.tmp 15), none, []⟩,
      ⟨(some 17), .move (.tmp 1), none, []⟩,
      ⟨(some 18), .bin .other .add (.tmp 16) (.tmp 17), none, []⟩,
      ⟨(some 19), .bin .other .add (.tmp 18) (.c (.int .i64 1)), none, []⟩,
      ⟨(some 20), .move (.tmp 0), none, []⟩,
      ⟨(some 21), .nilCheck (.tmp 20), none, []⟩,
      ⟨(some 22), .fieldAddr 5 (.tmp 21), none, []⟩,
      ⟨(some 23), .load (.cell (.int .i64)) (.tmp 22), none, []⟩,
      ⟨(some 24), .move (.tmp 0), none, []⟩,
      ⟨(some 25), .nilCheck (.tmp 24), none, []⟩,
      ⟨(some 26), .fieldAddr 4 (.tmp 25), none, []⟩,
      ⟨(some 27), .load (.cell (.int .i64)) (.tmp 26), none, []⟩,
      ⟨(some 28), .bin .other .add (.tmp 23) (.tmp 27), none, []⟩,
      ⟨(some 29), .bin .other .leq (.tmp 19) (.tmp 28), none, []⟩,
      ⟨(some 4), .move (.tmp 29), none, []⟩]) k13x4)
   (.skip)) k13x3
def k13x7 : AC := .ret
def k13x6 : AC := .seq (.mask 16) k13x7
def k13x1 : AC := .seq (.ops false [
    ⟨(some 30), .move (.tmp 0), none, []⟩,
    ⟨(some 31), .nilCheck (.tmp 30), none, []⟩,
    ⟨(some 32), .fieldAddr 3 (.tmp 31), none, []⟩,
    ⟨(some 33), .load (.cell (.int .i64)) (.tmp 32), none, []⟩,
    ⟨(some 34), .move (.tmp 1), none, []⟩,
    ⟨(some 35), .bin .other .add (.tmp 33) (.tmp 34), none, []⟩,
    ⟨(some 36), .bin .other .add (.tmp 35) (.c (.int .i64 1)), none, []⟩,
    ⟨(some 37), .move (.tmp 0), none, []⟩,
    ⟨(some 38), .nilCheck (.tmp 37), none, []⟩,
    ⟨(some 39), .fieldAddr 2 (.tmp 38), none, []⟩,
    ⟨(some 40), .load (.cell (.int .i64)) (.tmp 39), none, []⟩,
    ⟨(some 41), .bin .other .leq (.tmp 36) (.tmp 40), none, []⟩,
    ⟨(some 4), .move (.tmp 41), none, []⟩]) k13x6
def k13x0 : AC := .seq (.seq (.ops false [
    ⟨(some 5), .move (.tmp 1), none, []⟩,
    ⟨(some 6), .bin .other .add (.tmp 5) (.c (.int .i64 1)), none, []⟩,
    ⟨(some 7), .move (.tmp 0), none, []⟩,
    ⟨(some 8), .nilCheck (.tmp 7), none, []⟩,
    ⟨(some 9), .fieldAddr 2 (.tmp 8), none, []⟩,
    ⟨(some 10), .load (.cell (.int .i64)) (.tmp 9), none, []⟩,
    ⟨(some 11), .bin .other .sub (.tmp 10) (.c (.int .i64 1)), none, []⟩,
    ⟨(some 12), .bin .other .gtr (.tmp 6) (.tmp 11), none, []⟩]) k13x2) k13x1
/-- (*provenance/heap.Heap).Room -/
def c13 : AFn := ⟨42, [.tmp 4],
  .seq (.ops false [
    ⟨(some 4), .move (.c (.bool false)), none, []⟩]) k13x0⟩
theorem r13 (p0 : Option Ad) (i1 : Int) (h : Heap) : runE M C c13 [(.ptr p0), (.int .i64 i1)] h = (
  letK ((IntKind.wrap .i64 (i1 + 1)) : Int) fun i6 =>
  atP p0 true fun a8 =>
  gI .i64 (ld1 h (Ad.add a8 2)) true fun i10 =>
  letK ((IntKind.wrap .i64 (i10 - 1)) : Int) fun i11 =>
  letK ((decide ((i11 : Int) < i6)) : Bool) fun b12 =>
  if b12 = true then
    (
    atP p0 true fun a14 =>
    gI .i64 (ld1 h (Ad.add a14 6)) true fun i16 =>
    letK ((IntKind.wrap .i64 (i16 + i1)) : Int) fun i18 =>
    letK ((IntKind.wrap .i64 (i18 + 1)) : Int) fun i19 =>
    atP p0 true fun a21 =>
    gI .i64 (ld1 h (Ad.add a21 5)) true fun i23 =>
    atP p0 true fun a25 =>
    gI .i64 (ld1 h (Ad.add a25 4)) true fun i27 =>
    letK ((IntKind.wrap .i64 (i23 + i27)) : Int) fun i28 =>
    letK ((decide ((i19 : Int) ≤ i28)) : Bool) fun b29 =>
    some ((.bool b29), h)
    )
  else
    (
    atP p0 true fun a31 =>
    gI .i64 (ld1 h (Ad.add a31 3)) true fun i33 =>
    letK ((IntKind.wrap .i64 (i33 + i1)) : Int) fun i35 =>
    letK ((IntKind.wrap .i64 (i35 + 1)) : Int) fun i36 =>
    atP p0 true fun a38 =>
    gI .i64 (ld1 h (Ad.add a38 2)) true fun i40 =>
    letK ((decide ((i36 : Int) ≤ i40)) : Bool) fun b41 =>
    some ((.bool b41), h)
    )
  ) := by kernel_rfl
theorem cf13 : cFn Try.prog 13 = some c13 := by kernel_rfl
theorem e13 (p0 : Option Ad) (i1 : Int) (h : Heap) : E 13 [(.ptr p0), (.int .i64 i1)] h = (
  letK ((IntKind.wrap .i64 (i1 + 1)) : Int) fun i6 =>
  atP p0 true fun a8 =>
  gI .i64 (ld1 h (Ad.add a8 2)) true fun i10 =>
  letK ((IntKind.wrap .i64 (i10 - 1)) : Int) fun i11 =>
  letK ((decide ((i11 : Int) < i6)) : Bool) fun b12 =>
  if b12 = true then
    (
    atP p0 true fun a14 =>
    gI .i64 (ld1 h (Ad.add a14 6)) true fun i16 =>
    letK ((IntKind.wrap .i64 (i16 + i1)) : Int) fun i18 =>
    letK ((IntKind.wrap .i64 (i18 + 1)) : Int) fun i19 =>
    atP p0 true fun a21 =>
    gI .i64 (ld1 h (Ad.add a21 5)) true fun i23 =>
    atP p0 true fun a25 =>
    gI .i64 (ld1 h (Ad.add a25 4)) true fun i27 =>
    letK ((IntKind.wrap .i64 (i23 + i27)) : Int) fun i28 =>
    letK ((decide ((i19 : Int) ≤ i28)) : Bool) fun b29 =>
    some ((.bool b29), h)
    )
  else
    (
    atP p0 true fun a31 =>
    gI .i64 (ld1 h (Ad.add a31 3)) true fun i33 =>
    letK ((IntKind.wrap .i64 (i33 + i1)) : Int) fun i35 =>
    letK ((IntKind.wrap .i64 (i35 + 1)) : Int) fun i36 =>
    atP p0 true fun a38 =>
    gI .i64 (ld1 h (Ad.add a38 2)) true fun i40 =>
    letK ((decide ((i36 : Int) ≤ i40)) : Bool) fun b41 =>
    some ((.bool b41), h)
    )
  ) := (EV_eq (P := Try.prog) (T := T0) rfl cf13 [(.ptr p0), (.int .i64 i1)] h).trans (r13 mk0 E p0 i1 h)
def k29x2 : AC := .join 0
def k29x1 : AC := .seq (.cond (.tmp 42)
   (.ops false [
      ⟨(some 43), .move (.tmp 0), none, []⟩,
      ⟨(some 44), .move (.tmp 0), none, []⟩,
      ⟨(some 45), .nilCheck (.tmp 44), none, []⟩,
      ⟨(some 46), .fieldAddr 7 (.tmp 45), none, []⟩,
      ⟨(some 47), .load (.cell .sl) (.tmp 46), none, []⟩,
      ⟨(some 48), .move (.tmp 1), none, []⟩,
      ⟨(some 49), .buildSl [(.int .i64 0)] 1 [(0, (.tmp 48))], none, []⟩,
      ⟨(some 50), .append [(.int .i64 0)] 1 8 (.tmp 47) (.tmp 49), none, []⟩,
      ⟨(some 51), .nilCheck (.tmp 43), none, []⟩,
      ⟨(some 52), .fieldAddr 7 (.tmp 51), none, []⟩,
      ⟨none, .store 1 (.tmp 52) (.tmp 50), none, []⟩])
   (.skip)) k29x2
def k29x0 : AC := .seq (.ops true [
    ⟨(some 13), .move (.tmp 1), none, []⟩,
    ⟨(some 14), .move (.tmp 0), none, []⟩,
    ⟨(some 15), .nilCheck (.tmp 14), none, []⟩,
    ⟨(some 16), .fieldAddr 5 (.tmp 15), none, []⟩,
    ⟨(some 17), .load (.cell (.int .i64)) (.tmp 16), none, []⟩,
    ⟨(some 18), .move (.tmp 0), none, []⟩,
    ⟨(some 19), .nilCheck (.tmp 18), none, []⟩,
    ⟨(some 20), .fieldAddr 5 (.tmp 19), none, []⟩,
    ⟨(some 21), .load (.cell (.int .i64)) (.tmp 20), none, []⟩,
    ⟨(some 22), .move (.tmp 0), none, []⟩,
    ⟨(some 23), .nilCheck (.tmp 22), none, []⟩,
    ⟨(some 24), .fieldAddr 4 (.tmp 23), none, []⟩,
    ⟨(some 25), .load (.cell (.int .i64)) (.tmp 24), none, []⟩,
    ⟨(some 26), .bin .other .add (.tmp 21) (.tmp 25), none, []⟩,
    ⟨(some 27), .bin .other .sub (.tmp 26) (.c (.int .i64 1)), none, []⟩,
    ⟨(some 28), .call 26 [(.tmp 13), (.tmp 17), (.tmp 27)] [(.cell .bool)] (.bool false), none, []⟩,
    ⟨(some 29), .move (.tmp 28), none, []⟩,
    ⟨(some 30), .move (.tmp 0), (some (29, true)), []⟩,
    ⟨(some 31), .move (.tmp 2), (some (29, true)), []⟩,
    ⟨(some 32), .call 41 [(.tmp 30), (.tmp 31)] [(.cell .bool)] (.bool false), (some (29, true)), []⟩,
    ⟨(some 33), .pick (.tmp 29) (.tmp 32) (.c (.bool false)), none, []⟩,
    ⟨(some 34), .move (.tmp 33), none, []⟩,
    ⟨(some 35), .move (.tmp 0), (some (34, true)), []⟩,
    ⟨(some 36), .nilCheck (.tmp 35), (some (34, true)), []⟩,
    ⟨(some 37), .fieldAddr 7 (.tmp 36), (some (34, true)), []⟩,
    ⟨(some 38), .load (.cell .sl) (.tmp 37), (some (34, true)), []⟩,
    ⟨(some 39), .move (.tmp 1), (some (34, true)), []⟩,
    ⟨(some 40), .call 42 [(.tmp 38), (.tmp 39)] [(.cell .bool)] (.bool false), (some (34, true)), []⟩,
    ⟨(some 41), .un .not (.tmp 40), (some (34, true)), []⟩,
    ⟨(some 42), .pick (.tmp 34) (.tmp 41) (.c (.bool false)), none, []⟩]) k29x1
/-- (*provenance/heap.Heap).put -/
def c29 : AFn := ⟨53, [],
  .seq (.ops false [
    ⟨(some 6), .move (.tmp 0), none, []⟩,
    ⟨(some 7), .nilCheck (.tmp 6), none, []⟩,
    ⟨(some 8), .fieldAddr 0 (.tmp 7), none, []⟩,
    ⟨(some 9), .load (.cell .sl) (.tmp 8), none, []⟩,
    ⟨(some 10), .move (.tmp 1), none, []⟩,
    ⟨(some 11), .move (.tmp 2), none, []⟩,
    ⟨(some 12), .indexAddr 1 (.tmp 9) (.tmp 10), none, []⟩,
    ⟨none, .store 1 (.tmp 12) (.tmp 11), none, []⟩]) k29x0⟩
noncomputable def J29x3 (M : Mk) (C : Cal) (h : Heap) : Res := M (AV × Heap) (endQ []) (rep 53 []) h
theorem r29 (p0 : Option Ad) (i1 : Int) (i2 : Int) (h : Heap) : runE M C c29 [(.ptr p0), (.int .i64 i1), (.int .i64 i2)] h = (
  atP p0 true fun a7 =>
  gL (ld1 h (Ad.add a7 0)) true fun s9 n9 =>
  chk (true = true → (0 : Int) ≤ i1 ∧ (i1 : Int) < ((n9 : Nat) : Int)) <|
  atP (adP s9) true fun a12 =>
  (st1 h (Ad.add a12 (Int.toNat i1 * 1)) (.int .i64 i2)).bind fun h_2 =>
  atP p0 true fun a15 =>
  gI .i64 (ld1 h_2 (Ad.add a15 5)) true fun i17 =>
  atP p0 true fun a19 =>
  gI .i64 (ld1 h_2 (Ad.add a19 5)) true fun i21 =>
  atP p0 true fun a23 =>
  gI .i64 (ld1 h_2 (Ad.add a23 4)) true fun i25 =>
  letK ((IntKind.wrap .i64 (i21 + i25)) : Int) fun i26 =>
  letK ((IntKind.wrap .i64 (i26 - 1)) : Int) fun i27 =>
  (C 26 [(.int .i64 i1), (.int .i64 i17), (.int .i64 i27)] h_2).bind fun r28 =>
  gB (some r28.1) true fun b28 =>
  (callO b28 (C 41 [(.ptr p0), (.int .i64 i2)] r28.2) (.bool false) r28.2).bind fun r32 =>
  gB (some r32.1) b28 fun b32 =>
  letK ((if b28 = true then b32 else false) : Bool) fun b33 =>
  atP p0 b33 fun a36 =>
  atP (some a36) b33 fun a37 =>
  atP (some (Ad.add a37 7)) b33 fun a38 =>
  gL (ld1 r32.2 a38) b33 fun s38 n38 =>
  (callO b33 (C 42 [(.sl s38 n38), (.int .i64 i1)] r32.2) (.bool false) r32.2).bind fun r40 =>
  gB (some r40.1) b33 fun b40 =>
  letK ((if b33 = true then (!b40) else false) : Bool) fun b42 =>
  if b42 = true then
    (
    atP p0 true fun a45 =>
    gL (ld1 r40.2 (Ad.add a45 7)) true fun s47 n47 =>
    newK r40.2 (.cells [(.int .i64 i1)] (.grow 1) 0) fun h_3 =>
    (ldSl h_3 (.pos ⟨List.length r40.2, 0, 0⟩) (1 * 1)).bind fun y50 =>
    (apnd h_3 (.sl s47 n47) 1 8 y50 1).bind fun r50 =>
    gL (some r50.1) true fun s50 n50 =>
    atP p0 true fun a51 =>
    (st1 r50.2 (Ad.add a51 7) (.sl s50 n50)).bind fun h_4 =>
    J29x3 M C h_4
    )
  else
    (
    J29x3 M C r40.2
    )
  ) := by kernel_rfl
theorem cf29 : cFn Try.prog 29 = some c29 := by kernel_rfl
theorem e29 (p0 : Option Ad) (i1 : Int) (i2 : Int) (h : Heap) : E 29 [(.ptr p0), (.int .i64 i1), (.int .i64 i2)] h = (
  atP p0 true fun a7 =>
  gL (ld1 h (Ad.add a7 0)) true fun s9 n9 =>
  chk (true = true → (0 : Int) ≤ i1 ∧ (i1 : Int) < ((n9 : Nat) : Int)) <|
  atP (adP s9) true fun a12 =>
  (st1 h (Ad.add a12 (Int.toNat i1 * 1)) (.int .i64 i2)).bind fun h_2 =>
  atP p0 true fun a15 =>
  gI .i64 (ld1 h_2 (Ad.add a15 5)) true fun i17 =>
  atP p0 true fun a19 =>
  gI .i64 (ld1 h_2 (Ad.add a19 5)) true fun i21 =>
  atP p0 true fun a23 =>
  gI .i64 (ld1 h_2 (Ad.add a23 4)) true fun i25 =>
  letK ((IntKind.wrap .i64 (i21 + i25)) : Int) fun i26 =>
  letK ((IntKind.wrap .i64 (i26 - 1)) : Int) fun i27 =>
  (E 26 [(.int .i64 i1), (.int .i64 i17), (.int .i64 i27)] h_2).bind fun r28 =>
  gB (some r28.1) true fun b28 =>
  (callO b28 (E 41 [(.ptr p0), (.int .i64 i2)] r28.2) (.bool false) r28.2).bind fun r32 =>
  gB (some r32.1) b28 fun b32 =>
  letK ((if b28 = true then b32 else false) : Bool) fun b33 =>
  atP p0 b33 fun a36 =>
  atP (some a36) b33 fun a37 =>
  atP (some (Ad.add a37 7)) b33 fun a38 =>
  gL (ld1 r32.2 a38) b33 fun s38 n38 =>
  (callO b33 (E 42 [(.sl s38 n38), (.int .i64 i1)] r32.2) (.bool false) r32.2).bind fun r40 =>
  gB (some r40.1) b33 fun b40 =>
  letK ((if b33 = true then (!b40) else false) : Bool) fun b42 =>
  if b42 = true then
    (
    atP p0 true fun a45 =>
    gL (ld1 r40.2 (Ad.add a45 7)) true fun s47 n47 =>
    newK r40.2 (.cells [(.int .i64 i1)] (.grow 1) 0) fun h_3 =>
    (ldSl h_3 (.pos ⟨List.length r40.2, 0, 0⟩) (1 * 1)).bind fun y50 =>
    (apnd h_3 (.sl s47 n47) 1 8 y50 1).bind fun r50 =>
    gL (some r50.1) true fun s50 n50 =>
    atP p0 true fun a51 =>
    (st1 r50.2 (Ad.add a51 7) (.sl s50 n50)).bind fun h_4 =>
    J29x3 mk0 E h_4
    )
  else
    (
    J29x3 mk0 E r40.2
    )
  ) := (EV_eq (P := Try.prog) (T := T0) rfl cf29 [(.ptr p0), (.int .i64 i1), (.int .i64 i2)] h).trans (r29 mk0 E p0 i1 i2 h)
theorem J29x3xaux (M : Mk) (C : Cal) (h : Heap) : (forceK tk (rep 53 []) fun e => (endQ []) .normal ⟨e, h⟩) = (
  some (.tup [], h)
  ) := by kernel_rfl
theorem J29x3xeq (C : Cal) (h : Heap) : J29x3 mk0 C h = (
  some (.tup [], h)
  ) := join_eqn (endQ []) (rep 53 []) h (J29x3xaux mk0 C h)
def k41x2 : AC := .ret
def k41x1 : AC := .seq (.mask 16) k41x2
def k41x0 : AC := .seq (.ops true [
    ⟨(some 5), .move (.tmp 1), none, []⟩,
    ⟨(some 6), .bin .other .gtr (.tmp 5) (.c (.int .i64 0)), none, []⟩,
    ⟨(some 7), .move (.tmp 6), none, []⟩,
    ⟨(some 8), .move (.tmp 1), (some (7, true)), []⟩,
    ⟨(some 9), .bin .other .and (.tmp 8) (.c (.int .i64 1)), (some (7, true)), []⟩,
    ⟨(some 10), .bin .other .eql (.tmp 9) (.c (.int .i64 0)), (some (7, true)), []⟩,
    ⟨(some 11), .pick (.tmp 7) (.tmp 10) (.c (.bool false)), none, []⟩,
    ⟨(some 12), .move (.tmp 11), none, []⟩,
    ⟨(some 13), .move (.tmp 1), (some (12, true)), []⟩,
    ⟨(some 14), .bin .other .quo (.tmp 13) (.c (.int .i64 2)), (some (12, true)), []⟩,
    ⟨(some 15), .move (.tmp 0), (some (12, true)), []⟩,
    ⟨(some 16), .nilCheck (.tmp 15), (some (12, true)), []⟩,
    ⟨(some 17), .fieldAddr 2 (.tmp 16), (some (12, true)), []⟩,
    ⟨(some 18), .load (.cell (.int .i64)) (.tmp 17), (some (12, true)), []⟩,
    ⟨(some 19), .bin .other .lss (.tmp 14) (.tmp 18), (some (12, true)), []⟩,
    ⟨(some 20), .pick (.tmp 12) (.tmp 19) (.c (.bool false)), none, []⟩,
    ⟨(some 4), .move (.tmp 20), none, []⟩]) k41x1
/-- (*provenance/heap.Heap).inYoung -/
def c41 : AFn := ⟨21, [.tmp 4],
  .seq (.ops false [
    ⟨(some 4), .move (.c (.bool false)), none, []⟩]) k41x0⟩
theorem r41 (p0 : Option Ad) (i1 : Int) (h : Heap) : runE M C c41 [(.ptr p0), (.int .i64 i1)] h = (
  letK ((decide ((0 : Int) < i1)) : Bool) fun b6 =>
  letK ((Go.bits .and .i64 i1 1) : Int) fun i9 =>
  letK ((decide ((i9 : Int) = 0)) : Bool) fun b10 =>
  letK ((if b6 = true then b10 else false) : Bool) fun b11 =>
  chk (b11 = true → (2 : Int) ≠ 0) <|
  letK ((IntKind.wrap .i64 (Int.tdiv i1 2)) : Int) fun i14 =>
  atP p0 b11 fun a16 =>
  atP (some a16) b11 fun a17 =>
  atP (some (Ad.add a17 2)) b11 fun a18 =>
  gI .i64 (ld1 h a18) b11 fun i18 =>
  letK ((decide ((i14 : Int) < i18)) : Bool) fun b19 =>
  letK ((if b11 = true then b19 else false) : Bool) fun b20 =>
  some ((.bool b20), h)
  ) := by kernel_rfl
theorem cf41 : cFn Try.prog 41 = some c41 := by kernel_rfl
theorem e41 (p0 : Option Ad) (i1 : Int) (h : Heap) : E 41 [(.ptr p0), (.int .i64 i1)] h = (
  letK ((decide ((0 : Int) < i1)) : Bool) fun b6 =>
  letK ((Go.bits .and .i64 i1 1) : Int) fun i9 =>
  letK ((decide ((i9 : Int) = 0)) : Bool) fun b10 =>
  letK ((if b6 = true then b10 else false) : Bool) fun b11 =>
  chk (b11 = true → (2 : Int) ≠ 0) <|
  letK ((IntKind.wrap .i64 (Int.tdiv i1 2)) : Int) fun i14 =>
  atP p0 b11 fun a16 =>
  atP (some a16) b11 fun a17 =>
  atP (some (Ad.add a17 2)) b11 fun a18 =>
  gI .i64 (ld1 h a18) b11 fun i18 =>
  letK ((decide ((i14 : Int) < i18)) : Bool) fun b19 =>
  letK ((if b11 = true then b19 else false) : Bool) fun b20 =>
  some ((.bool b20), h)
  ) := (EV_eq (P := Try.prog) (T := T0) rfl cf41 [(.ptr p0), (.int .i64 i1)] h).trans (r41 mk0 E p0 i1 h)
def k47x8 : AC := .exit 0
def k47x7 : AC := .mask 387
def k47x15 : AC := .ret
def k47x14 : AC := .seq (.mask 16) k47x15
def k47x13 : AC := .mask 387
def k47x12 : AC := .seq (.cond (.tmp 16)
   (.seq (.ops false [
      ⟨(some 17), .move (.tmp 5), none, []⟩,
      ⟨(some 4), .move (.tmp 17), none, []⟩]) k47x14)
   (.skip)) k47x13
def k47x11 : AC := .seq (.ops false [
    ⟨(some 11), .move (.tmp 1), none, []⟩,
    ⟨(some 12), .move (.tmp 0), none, []⟩,
    ⟨(some 13), .move (.tmp 5), none, []⟩,
    ⟨(some 14), .indexAddr 1 (.tmp 12) (.tmp 13), none, []⟩,
    ⟨(some 15), .load (.cell (.int .i64)) (.tmp 14), none, []⟩,
    ⟨(some 16), .bin .other .eql (.tmp 11) (.tmp 15), none, []⟩]) k47x12
def k47x10 : AC := .mask 387
def k47x9 : AC := .ops false [
    ⟨(some 18), .bin .other .add (.tmp 8) (.c (.int .i64 1)), none, []⟩,
    ⟨(some 8), .move (.tmp 18), none, []⟩]
def k47x6 : AC := .seq (.seq (.block 1 (.seq (.ops false [
     ⟨(some 10), .move (.tmp 8), none, []⟩,
     ⟨(some 5), .move (.tmp 10), none, []⟩]) k47x11)) k47x10) k47x9
def k47x5 : AC := .seq (.seq (.cond (.tmp 9)
   (.skip)
   (.seq (.mask 0) k47x8)) k47x7) k47x6
def k47x4 : AC := .seq (.ops false [
    ⟨(some 9), .bin .other .lss (.tmp 8) (.tmp 7), none, []⟩]) k47x5
def k47x3 : AC := .mask 0
def k47x2 : AC := .seq (.block 0 (.loop 387 0 k47x4)) k47x3
def k47x17 : AC := .ret
def k47x16 : AC := .seq (.mask 16) k47x17
def k47x1 : AC := .seq (.ops false [
    ⟨(some 4), .move (.c (.int .i64 (-1))), none, []⟩]) k47x16
def k47x0 : AC := .seq (.seq (.ops false [
    ⟨(some 6), .move (.tmp 0), none, []⟩,
    ⟨(some 7), .lenSl (.tmp 6), none, []⟩,
    ⟨(some 8), .move (.c (.int .i64 0)), none, []⟩]) k47x2) k47x1
/-- slices.Index[[]int,int] -/
def c47 : AFn := ⟨19, [.tmp 4],
  .seq (.ops false [
    ⟨(some 4), .move (.c (.int .i64 0)), none, []⟩]) k47x0⟩
def S47xr (i4 : Int) (h : Heap) : St := ⟨(rep 4 (.g [] true (.int .i64 i4) :: (rep 14 []))), h⟩
def S47xe0 (h : Heap) : St := ⟨(rep 19 []), h⟩
noncomputable def Q47x4 (M : Mk) (C : Cal) : Kont (AV × Heap) := (blockQ 0 (seqQ (evalE M C k47x3) (seqQ (evalE M C k47x1) (endQ [.tmp 4]))))
noncomputable def L47x4 (s0 : SA) (n0 : Nat) (i1 : Int) (i7 : Int) (i8 : Int) (h : Heap) (Q : Kont R) : Option R := loopE (evalE M C k47x4) 387 0 ⟨(.g [] true (.sl s0 n0) :: (.g [] true (.int .i64 i1) :: (rep 5 (.g [] true (.int .i64 i7) :: (.g [] true (.int .i64 i8) :: (rep 10 [])))))), h⟩ Q
theorem r47 (s0 : SA) (n0 : Nat) (i1 : Int) (h : Heap) : runE M C c47 [(.sl s0 n0), (.int .i64 i1)] h = (
  L47x4 M C s0 n0 i1 ((n0 : Nat) : Int) 0 h (Q47x4 M C)
  ) := by kernel_rfl
theorem cf47 : cFn Try.prog 47 = some c47 := by kernel_rfl
theorem e47 (s0 : SA) (n0 : Nat) (i1 : Int) (h : Heap) : E 47 [(.sl s0 n0), (.int .i64 i1)] h = (
  L47x4 mk0 E s0 n0 i1 ((n0 : Nat) : Int) 0 h (Q47x4 mk0 E)
  ) := (EV_eq (P := Try.prog) (T := T0) rfl cf47 [(.sl s0 n0), (.int .i64 i1)] h).trans (r47 mk0 E s0 n0 i1 h)
theorem L47x4xaux (s0 : SA) (n0 : Nat) (i1 : Int) (i7 : Int) (i8 : Int) (h : Heap) (Q : Kont R) : (restrF 387 ⟨(.g [] true (.sl s0 n0) :: (.g [] true (.int .i64 i1) :: (rep 5 (.g [] true (.int .i64 i7) :: (.g [] true (.int .i64 i8) :: (rep 10 [])))))), h⟩ fun σ => evalE M C k47x4 σ (roundQ M C k47x4 387 0 Q)) = (
  letK ((decide ((i8 : Int) < i7)) : Bool) fun b9 =>
  if b9 = true then
    (
    chk (true = true → (0 : Int) ≤ i8 ∧ (i8 : Int) < ((n0 : Nat) : Int)) <|
    atP (adP s0) true fun a14 =>
    gI .i64 (ld1 h (Ad.add a14 (Int.toNat i8 * 1))) true fun i15 =>
    letK ((decide ((i1 : Int) = i15)) : Bool) fun b16 =>
    if b16 = true then
      (
      Q .ret (S47xr i8 h)
      )
    else
      (
      letK ((IntKind.wrap .i64 (i8 + 1)) : Int) fun i18 =>
      L47x4 M C s0 n0 i1 i7 i18 h Q
      )
    )
  else
    (
    Q (.exit 0) (S47xe0 h)
    )
  ) := by kernel_rfl
theorem L47x4xeq (s0 : SA) (n0 : Nat) (i1 : Int) (i7 : Int) (i8 : Int) (h : Heap) (Q : Kont R) : L47x4 mk0 C s0 n0 i1 i7 i8 h Q = (
  letK ((decide ((i8 : Int) < i7)) : Bool) fun b9 =>
  if b9 = true then
    (
    chk (true = true → (0 : Int) ≤ i8 ∧ (i8 : Int) < ((n0 : Nat) : Int)) <|
    atP (adP s0) true fun a14 =>
    gI .i64 (ld1 h (Ad.add a14 (Int.toNat i8 * 1))) true fun i15 =>
    letK ((decide ((i1 : Int) = i15)) : Bool) fun b16 =>
    if b16 = true then
      (
      Q .ret (S47xr i8 h)
      )
    else
      (
      letK ((IntKind.wrap .i64 (i8 + 1)) : Int) fun i18 =>
      L47x4 mk0 C s0 n0 i1 i7 i18 h Q
      )
    )
  else
    (
    Q (.exit 0) (S47xe0 h)
    )
  ) := loop_eqn C k47x4 387 0 (.g [] true (.sl s0 n0) :: (.g [] true (.int .i64 i1) :: (rep 5 (.g [] true (.int .i64 i7) :: (.g [] true (.int .i64 i8) :: (rep 10 [])))))) h Q (by kernel_rfl) (L47x4xaux mk0 C s0 n0 i1 i7 i8 h Q)
theorem X47x4xr (M : Mk) (C : Cal) (i4 : Int) (h : Heap) : Q47x4 M C .ret (S47xr i4 h) = (
  some ((.int .i64 i4), h)
  ) := by kernel_rfl
theorem X47x4xe0 (M : Mk) (C : Cal) (h : Heap) : Q47x4 M C (.exit 0) (S47xe0 h) = (
  some ((.int .i64 (-1)), h)
  ) := by kernel_rfl
def k42x2 : AC := .ret
def k42x1 : AC := .seq (.mask 16) k42x2
def k42x0 : AC := .seq (.ops false [
    ⟨(some 5), .move (.tmp 0), none, []⟩,
    ⟨(some 6), .move (.tmp 1), none, []⟩,
    ⟨(some 7), .call 47 [(.tmp 5), (.tmp 6)] [(.cell (.int .i64))] (.int .i64 0), none, []⟩,
    ⟨(some 8), .bin .other .geq (.tmp 7) (.c (.int .i64 0)), none, []⟩,
    ⟨(some 4), .move (.tmp 8), none, []⟩]) k42x1
/-- slices.Contains[[]int,int] -/
def c42 : AFn := ⟨9, [.tmp 4],
  .seq (.ops false [
    ⟨(some 4), .move (.c (.bool false)), none, []⟩]) k42x0⟩
theorem r42 (s0 : SA) (n0 : Nat) (i1 : Int) (h : Heap) : runE M C c42 [(.sl s0 n0), (.int .i64 i1)] h = (
  (C 47 [(.sl s0 n0), (.int .i64 i1)] h).bind fun r7 =>
  gI .i64 (some r7.1) true fun i7 =>
  letK ((decide ((0 : Int) ≤ i7)) : Bool) fun b8 =>
  some ((.bool b8), r7.2)
  ) := by kernel_rfl
theorem cf42 : cFn Try.prog 42 = some c42 := by kernel_rfl
theorem e42 (s0 : SA) (n0 : Nat) (i1 : Int) (h : Heap) : E 42 [(.sl s0 n0), (.int .i64 i1)] h = (
  (E 47 [(.sl s0 n0), (.int .i64 i1)] h).bind fun r7 =>
  gI .i64 (some r7.1) true fun i7 =>
  letK ((decide ((0 : Int) ≤ i7)) : Bool) fun b8 =>
  some ((.bool b8), r7.2)
  ) := (EV_eq (P := Try.prog) (T := T0) rfl cf42 [(.sl s0 n0), (.int .i64 i1)] h).trans (r42 mk0 E s0 n0 i1 h)
def k14x6 : AC := .ret
def k14x5 : AC := .seq (.mask 768) k14x6
def k14x10 : AC := .ret
def k14x9 : AC := .seq (.mask 768) k14x10
def k14x14 : AC := .ret
def k14x13 : AC := .seq (.mask 768) k14x14
def k14x12 : AC := .mask 15
def k14x11 : AC := .seq (.cond (.tmp 26)
   (.seq (.ops false [
      ⟨(some 8), .move (.c (.int .i64 0)), none, []⟩,
      ⟨(some 9), .move (.c (.int .i64 16)), none, []⟩]) k14x13)
   (.skip)) k14x12
def k14x8 : AC := .mask 15
def k14x7 : AC := .seq (.cond (.tmp 22)
   (.seq (.ops false [
      ⟨(some 8), .move (.c (.int .i64 0)), none, []⟩,
      ⟨(some 9), .move (.c (.int .i64 4)), none, []⟩]) k14x9)
   (.seq (.ops false [
      ⟨(some 27), .move (.tmp 0), none, []⟩,
      ⟨(some 28), .move (.tmp 2), none, []⟩,
      ⟨(some 29), .call 13 [(.tmp 27), (.tmp 28)] [(.cell .bool)] (.bool false), none, []⟩,
      ⟨(some 30), .un .not (.tmp 29), none, []⟩,
      ⟨(some 26), .move (.tmp 30), none, []⟩]) k14x11)) k14x8
def k14x4 : AC := .mask 15
def k14x3 : AC := .seq (.cond (.tmp 13)
   (.seq (.ops false [
      ⟨(some 8), .move (.c (.int .i64 0)), none, []⟩,
      ⟨(some 9), .move (.c (.int .i64 1)), none, []⟩]) k14x5)
   (.seq (.ops false [
      ⟨(some 23), .move (.tmp 3), none, []⟩,
      ⟨(some 24), .call 26 [(.tmp 23), (.c (.int .i64 (-2147483648))), (.c (.int .i64 2147483647))] [(.cell .bool)] (.bool false), none, []⟩,
      ⟨(some 25), .un .not (.tmp 24), none, []⟩,
      ⟨(some 22), .move (.tmp 25), none, []⟩]) k14x7)) k14x4
def k14x2 : AC := .mask 15
def k14x18 : AC := .join 1039
def k14x17 : AC := .seq (.cond (.tmp 41)
   (.ops false [
      ⟨(some 42), .move (.tmp 0), none, []⟩,
      ⟨(some 43), .nilCheck (.tmp 42), none, []⟩,
      ⟨(some 44), .fieldAddr 6 (.tmp 43), none, []⟩,
      ⟨(some 10), .move (.tmp 44), none, []⟩])
   (.skip)) k14x18
def k14x30 : AC := .exit 1
def k14x29 : AC := .mask 6157
def k14x28 : AC := .seq (.cond (.tmp 66)
   (.skip)
   (.seq (.mask 2048) k14x30)) k14x29
def k14x32 : AC := .mask 6157
def k14x31 : AC := .ops false [
    ⟨(some 67), .move (.tmp 12), none, []⟩,
    ⟨(some 68), .bin .other .add (.tmp 67) (.c (.int .i64 1)), none, []⟩,
    ⟨(some 12), .move (.tmp 68), none, []⟩]
def k14x27 : AC := .seq (.seq (.block 2 (.ops false [
     ⟨(some 69), .move (.tmp 0), none, []⟩,
     ⟨(some 70), .move (.tmp 11), none, []⟩,
     ⟨(some 71), .move (.tmp 12), none, []⟩,
     ⟨(some 72), .bin .other .add (.tmp 70) (.tmp 71), none, []⟩,
     ⟨(some 73), .move (.tmp 3), none, []⟩,
     ⟨(some 74), .call 29 [(.tmp 69), (.tmp 72), (.tmp 73)] [] .opq, none, []⟩])) k14x32) k14x31
def k14x26 : AC := .seq (.seq (.ops false [
    ⟨(some 64), .move (.tmp 12), none, []⟩,
    ⟨(some 65), .move (.tmp 2), none, []⟩,
    ⟨(some 66), .bin .other .leq (.tmp 64) (.tmp 65), none, []⟩]) k14x28) k14x27
def k14x25 : AC := .mask 2048
def k14x24 : AC := .seq (.block 1 (.loop 6157 2048 k14x26)) k14x25
def k14x34 : AC := .ret
def k14x33 : AC := .seq (.mask 768) k14x34
def k14x23 : AC := .seq (.ops false [
    ⟨(some 75), .move (.tmp 11), none, []⟩,
    ⟨(some 76), .bin .other .mul (.c (.int .i64 2)) (.tmp 75), none, []⟩,
    ⟨(some 8), .move (.tmp 76), none, []⟩,
    ⟨(some 9), .move (.c (.int .i64 0)), none, []⟩]) k14x33
def k14x22 : AC := .seq (.seq (.ops false [
    ⟨(some 12), .move (.c (.int .i64 1)), none, []⟩]) k14x24) k14x23
def k14x21 : AC := .seq (.ops false [
    ⟨(some 55), .move (.tmp 0), none, []⟩,
    ⟨(some 56), .nilCheck (.tmp 55), none, []⟩,
    ⟨(some 57), .fieldAddr 0 (.tmp 56), none, []⟩,
    ⟨(some 58), .load (.cell .sl) (.tmp 57), none, []⟩,
    ⟨(some 59), .move (.tmp 11), none, []⟩,
    ⟨(some 60), .move (.tmp 1), none, []⟩,
    ⟨(some 61), .move (.tmp 2), none, []⟩,
    ⟨(some 62), .call 28 [(.tmp 60), (.tmp 61)] [(.cell (.int .i64))] (.int .i64 0), none, [.load 1 57 none]⟩,
    ⟨(some 63), .indexAddr 1 (.tmp 58) (.tmp 59), none, []⟩,
    ⟨none, .store 1 (.tmp 63) (.tmp 62), none, []⟩]) k14x22
def k14x20 : AC := .seq (.ops false [
    ⟨(some 48), .move (.tmp 10), none, []⟩,
    ⟨(some 49), .nilCheck (.tmp 48), none, []⟩,
    ⟨(some 50), .load (.cell (.int .i64)) (.tmp 49), none, []⟩,
    ⟨(some 51), .move (.tmp 2), none, []⟩,
    ⟨(some 52), .bin .other .add (.tmp 51) (.c (.int .i64 1)), none, []⟩,
    ⟨(some 53), .bin .other .add (.tmp 50) (.tmp 52), none, []⟩,
    ⟨(some 54), .nilCheck (.tmp 48), none, []⟩,
    ⟨none, .store 1 (.tmp 54) (.tmp 53), none, []⟩]) k14x21
def k14x16 : AC := .seq (.ops false [
    ⟨(some 45), .move (.tmp 10), none, []⟩,
    ⟨(some 46), .nilCheck (.tmp 45), none, []⟩,
    ⟨(some 47), .load (.cell (.int .i64)) (.tmp 46), none, []⟩,
    ⟨(some 11), .move (.tmp 47), none, []⟩]) k14x20
def k14x15 : AC := .seq (.seq (.ops false [
    ⟨(some 34), .move (.tmp 2), none, []⟩,
    ⟨(some 35), .bin .other .add (.tmp 34) (.c (.int .i64 1)), none, []⟩,
    ⟨(some 36), .move (.tmp 0), none, []⟩,
    ⟨(some 37), .nilCheck (.tmp 36), none, []⟩,
    ⟨(some 38), .fieldAddr 2 (.tmp 37), none, []⟩,
    ⟨(some 39), .load (.cell (.int .i64)) (.tmp 38), none, []⟩,
    ⟨(some 40), .bin .other .sub (.tmp 39) (.c (.int .i64 1)), none, []⟩,
    ⟨(some 41), .bin .other .gtr (.tmp 35) (.tmp 40), none, []⟩]) k14x17) k14x16
def k14x1 : AC := .seq (.ops false [
    ⟨(some 31), .move (.tmp 0), none, []⟩,
    ⟨(some 32), .nilCheck (.tmp 31), none, []⟩,
    ⟨(some 33), .fieldAddr 3 (.tmp 32), none, []⟩,
    ⟨(some 10), .move (.tmp 33), none, []⟩]) k14x15
def k14x0 : AC := .seq (.seq (.block 0 (.seq (.ops true [
     ⟨(some 14), .move (.tmp 1), none, []⟩,
     ⟨(some 15), .call 26 [(.tmp 14), (.c (.int .i64 0)), (.c (.int .i64 258))] [(.cell .bool)] (.bool false), none, []⟩,
     ⟨(some 16), .un .not (.tmp 15), none, []⟩,
     ⟨(some 17), .move (.tmp 16), none, []⟩,
     ⟨(some 18), .move (.tmp 2), (some (17, false)), []⟩,
     ⟨(some 19), .call 26 [(.tmp 18), (.c (.int .i64 0)), (.c (.int .i64 4095))] [(.cell .bool)] (.bool false), (some (17, false)), []⟩,
     ⟨(some 20), .un .not (.tmp 19), (some (17, false)), []⟩,
     ⟨(some 21), .pick (.tmp 17) (.c (.bool true)) (.tmp 20), none, []⟩,
     ⟨(some 13), .move (.tmp 21), none, []⟩]) k14x3)) k14x2) k14x1
/-- (*provenance/heap.Heap).Alloc -/
def c14 : AFn := ⟨77, [.tmp 8, .tmp 9],
  .seq (.ops false [
    ⟨(some 8), .move (.c (.int .i64 0)), none, []⟩,
    ⟨(some 9), .move (.c (.int .i64 0)), none, []⟩]) k14x0⟩
def S14xe1 (i11 : Int) (h : Heap) : St := ⟨(rep 11 (.g [] true (.int .i64 i11) :: (rep 65 []))), h⟩
noncomputable def J14x19 (M : Mk) (C : Cal) (p0 : Option Ad) (i1 : Int) (i2 : Int) (i3 : Int) (p10 : Option Ad) (h : Heap) : Res := M (AV × Heap) (seqQ (evalE M C k14x16) (endQ [.tmp 8, .tmp 9])) (.g [] true (.ptr p0) :: (.g [] true (.int .i64 i1) :: (.g [] true (.int .i64 i2) :: (.g [] true (.int .i64 i3) :: (rep 6 (.g [] true (.ptr p10) :: (rep 66 []))))))) h
noncomputable def Q14x26 (M : Mk) (C : Cal) : Kont (AV × Heap) := (blockQ 1 (seqQ (evalE M C k14x25) (seqQ (evalE M C k14x23) (endQ [.tmp 8, .tmp 9]))))
noncomputable def L14x26 (p0 : Option Ad) (i2 : Int) (i3 : Int) (i11 : Int) (i12 : Int) (h : Heap) (Q : Kont R) : Option R := loopE (evalE M C k14x26) 6157 2048 ⟨(.g [] true (.ptr p0) :: (.any :: (.g [] true (.int .i64 i2) :: (.g [] true (.int .i64 i3) :: (rep 7 (.g [] true (.int .i64 i11) :: (.g [] true (.int .i64 i12) :: (rep 64 [])))))))), h⟩ Q
theorem r14 (p0 : Option Ad) (i1 : Int) (i2 : Int) (i3 : Int) (h : Heap) : runE M C c14 [(.ptr p0), (.int .i64 i1), (.int .i64 i2), (.int .i64 i3)] h = (
  (C 26 [(.int .i64 i1), (.int .i64 0), (.int .i64 258)] h).bind fun r15 =>
  gB (some r15.1) true fun b15 =>
  (callO (!(!b15)) (C 26 [(.int .i64 i2), (.int .i64 0), (.int .i64 4095)] r15.2) (.bool false) r15.2).bind fun r19 =>
  gB (some r19.1) (!(!b15)) fun b19 =>
  letK ((if (!b15) = true then true else (!b19)) : Bool) fun b21 =>
  if b21 = true then
    (
    some (.tup [(.int .i64 0), (.int .i64 1)], r19.2)
    )
  else
    (
    (C 26 [(.int .i64 i3), (.int .i64 (-2147483648)), (.int .i64 2147483647)] r19.2).bind fun r24 =>
    gB (some r24.1) true fun b24 =>
    if (!b24) = true then
      (
      some (.tup [(.int .i64 0), (.int .i64 4)], r24.2)
      )
    else
      (
      (C 13 [(.ptr p0), (.int .i64 i2)] r24.2).bind fun r29 =>
      gB (some r29.1) true fun b29 =>
      if (!b29) = true then
        (
        some (.tup [(.int .i64 0), (.int .i64 16)], r29.2)
        )
      else
        (
        atP p0 true fun a32 =>
        letK ((IntKind.wrap .i64 (i2 + 1)) : Int) fun i35 =>
        atP p0 true fun a37 =>
        gI .i64 (ld1 r29.2 (Ad.add a37 2)) true fun i39 =>
        letK ((IntKind.wrap .i64 (i39 - 1)) : Int) fun i40 =>
        letK ((decide ((i40 : Int) < i35)) : Bool) fun b41 =>
        if b41 = true then
          (
          atP p0 true fun a43 =>
          J14x19 M C p0 i1 i2 i3 (some (Ad.add a43 6)) r29.2
          )
        else
          (
          J14x19 M C p0 i1 i2 i3 (some (Ad.add a32 3)) r29.2
          )
        )
      )
    )
  ) := by kernel_rfl
theorem cf14 : cFn Try.prog 14 = some c14 := by kernel_rfl
theorem e14 (p0 : Option Ad) (i1 : Int) (i2 : Int) (i3 : Int) (h : Heap) : E 14 [(.ptr p0), (.int .i64 i1), (.int .i64 i2), (.int .i64 i3)] h = (
  (E 26 [(.int .i64 i1), (.int .i64 0), (.int .i64 258)] h).bind fun r15 =>
  gB (some r15.1) true fun b15 =>
  (callO (!(!b15)) (E 26 [(.int .i64 i2), (.int .i64 0), (.int .i64 4095)] r15.2) (.bool false) r15.2).bind fun r19 =>
  gB (some r19.1) (!(!b15)) fun b19 =>
  letK ((if (!b15) = true then true else (!b19)) : Bool) fun b21 =>
  if b21 = true then
    (
    some (.tup [(.int .i64 0), (.int .i64 1)], r19.2)
    )
  else
    (
    (E 26 [(.int .i64 i3), (.int .i64 (-2147483648)), (.int .i64 2147483647)] r19.2).bind fun r24 =>
    gB (some r24.1) true fun b24 =>
    if (!b24) = true then
      (
      some (.tup [(.int .i64 0), (.int .i64 4)], r24.2)
      )
    else
      (
      (E 13 [(.ptr p0), (.int .i64 i2)] r24.2).bind fun r29 =>
      gB (some r29.1) true fun b29 =>
      if (!b29) = true then
        (
        some (.tup [(.int .i64 0), (.int .i64 16)], r29.2)
        )
      else
        (
        atP p0 true fun a32 =>
        letK ((IntKind.wrap .i64 (i2 + 1)) : Int) fun i35 =>
        atP p0 true fun a37 =>
        gI .i64 (ld1 r29.2 (Ad.add a37 2)) true fun i39 =>
        letK ((IntKind.wrap .i64 (i39 - 1)) : Int) fun i40 =>
        letK ((decide ((i40 : Int) < i35)) : Bool) fun b41 =>
        if b41 = true then
          (
          atP p0 true fun a43 =>
          J14x19 mk0 E p0 i1 i2 i3 (some (Ad.add a43 6)) r29.2
          )
        else
          (
          J14x19 mk0 E p0 i1 i2 i3 (some (Ad.add a32 3)) r29.2
          )
        )
      )
    )
  ) := (EV_eq (P := Try.prog) (T := T0) rfl cf14 [(.ptr p0), (.int .i64 i1), (.int .i64 i2), (.int .i64 i3)] h).trans (r14 mk0 E p0 i1 i2 i3 h)
theorem J14x19xaux (M : Mk) (C : Cal) (p0 : Option Ad) (i1 : Int) (i2 : Int) (i3 : Int) (p10 : Option Ad) (h : Heap) : (forceK tk (.g [] true (.ptr p0) :: (.g [] true (.int .i64 i1) :: (.g [] true (.int .i64 i2) :: (.g [] true (.int .i64 i3) :: (rep 6 (.g [] true (.ptr p10) :: (rep 66 []))))))) fun e => (seqQ (evalE M C k14x16) (endQ [.tmp 8, .tmp 9])) .normal ⟨e, h⟩) = (
  atP p10 true fun a46 =>
  gI .i64 (ld1 h a46) true fun i47 =>
  atP p10 true fun a49 =>
  gI .i64 (ld1 h a49) true fun i50 =>
  letK ((IntKind.wrap .i64 (i2 + 1)) : Int) fun i52 =>
  letK ((IntKind.wrap .i64 (i50 + i52)) : Int) fun i53 =>
  atP p10 true fun a54 =>
  (st1 h a54 (.int .i64 i53)).bind fun h_2 =>
  atP p0 true fun a56 =>
  gL (ld1 h_2 (Ad.add a56 0)) true fun s58 n58 =>
  (C 28 [(.int .i64 i1), (.int .i64 i2)] h_2).bind fun r62 =>
  gI .i64 (some r62.1) true fun i62 =>
  chkC (true = true → ldN r62.2 (Ad.add a56 0) 1 = ldN h_2 (Ad.add a56 0) 1) <|
  chk (true = true → (0 : Int) ≤ i47 ∧ (i47 : Int) < ((n58 : Nat) : Int)) <|
  atP (adP s58) true fun a63 =>
  (st1 r62.2 (Ad.add a63 (Int.toNat i47 * 1)) (.int .i64 i62)).bind fun h_3 =>
  L14x26 M C p0 i2 i3 i47 1 h_3 (Q14x26 M C)
  ) := by kernel_rfl
theorem J14x19xeq (C : Cal) (p0 : Option Ad) (i1 : Int) (i2 : Int) (i3 : Int) (p10 : Option Ad) (h : Heap) : J14x19 mk0 C p0 i1 i2 i3 p10 h = (
  atP p10 true fun a46 =>
  gI .i64 (ld1 h a46) true fun i47 =>
  atP p10 true fun a49 =>
  gI .i64 (ld1 h a49) true fun i50 =>
  letK ((IntKind.wrap .i64 (i2 + 1)) : Int) fun i52 =>
  letK ((IntKind.wrap .i64 (i50 + i52)) : Int) fun i53 =>
  atP p10 true fun a54 =>
  (st1 h a54 (.int .i64 i53)).bind fun h_2 =>
  atP p0 true fun a56 =>
  gL (ld1 h_2 (Ad.add a56 0)) true fun s58 n58 =>
  (C 28 [(.int .i64 i1), (.int .i64 i2)] h_2).bind fun r62 =>
  gI .i64 (some r62.1) true fun i62 =>
  chkC (true = true → ldN r62.2 (Ad.add a56 0) 1 = ldN h_2 (Ad.add a56 0) 1) <|
  chk (true = true → (0 : Int) ≤ i47 ∧ (i47 : Int) < ((n58 : Nat) : Int)) <|
  atP (adP s58) true fun a63 =>
  (st1 r62.2 (Ad.add a63 (Int.toNat i47 * 1)) (.int .i64 i62)).bind fun h_3 =>
  L14x26 mk0 C p0 i2 i3 i47 1 h_3 (Q14x26 mk0 C)
  ) := join_eqn (seqQ (evalE mk0 C k14x16) (endQ [.tmp 8, .tmp 9])) (.g [] true (.ptr p0) :: (.g [] true (.int .i64 i1) :: (.g [] true (.int .i64 i2) :: (.g [] true (.int .i64 i3) :: (rep 6 (.g [] true (.ptr p10) :: (rep 66 []))))))) h (J14x19xaux mk0 C p0 i1 i2 i3 p10 h)
theorem L14x26xaux (p0 : Option Ad) (i2 : Int) (i3 : Int) (i11 : Int) (i12 : Int) (h : Heap) (Q : Kont R) : (restrF 6157 ⟨(.g [] true (.ptr p0) :: (.any :: (.g [] true (.int .i64 i2) :: (.g [] true (.int .i64 i3) :: (rep 7 (.g [] true (.int .i64 i11) :: (.g [] true (.int .i64 i12) :: (rep 64 [])))))))), h⟩ fun σ => evalE M C k14x26 σ (roundQ M C k14x26 6157 2048 Q)) = (
  letK ((decide ((i12 : Int) ≤ i2)) : Bool) fun b66 =>
  if b66 = true then
    (
    letK ((IntKind.wrap .i64 (i11 + i12)) : Int) fun i72 =>
    (C 29 [(.ptr p0), (.int .i64 i72), (.int .i64 i3)] h).bind fun r74 =>
    gT 0 r74.1 true fun u74 =>
    letK ((IntKind.wrap .i64 (i12 + 1)) : Int) fun i68 =>
    L14x26 M C p0 i2 i3 i11 i68 r74.2 Q
    )
  else
    (
    Q (.exit 1) (S14xe1 i11 h)
    )
  ) := by kernel_rfl
theorem L14x26xeq (p0 : Option Ad) (i2 : Int) (i3 : Int) (i11 : Int) (i12 : Int) (h : Heap) (Q : Kont R) : L14x26 mk0 C p0 i2 i3 i11 i12 h Q = (
  letK ((decide ((i12 : Int) ≤ i2)) : Bool) fun b66 =>
  if b66 = true then
    (
    letK ((IntKind.wrap .i64 (i11 + i12)) : Int) fun i72 =>
    (C 29 [(.ptr p0), (.int .i64 i72), (.int .i64 i3)] h).bind fun r74 =>
    gT 0 r74.1 true fun u74 =>
    letK ((IntKind.wrap .i64 (i12 + 1)) : Int) fun i68 =>
    L14x26 mk0 C p0 i2 i3 i11 i68 r74.2 Q
    )
  else
    (
    Q (.exit 1) (S14xe1 i11 h)
    )
  ) := loop_eqn C k14x26 6157 2048 (.g [] true (.ptr p0) :: (.any :: (.g [] true (.int .i64 i2) :: (.g [] true (.int .i64 i3) :: (rep 7 (.g [] true (.int .i64 i11) :: (.g [] true (.int .i64 i12) :: (rep 64 [])))))))) h Q (by kernel_rfl) (L14x26xaux mk0 C p0 i2 i3 i11 i12 h Q)
theorem X14x26xe1 (M : Mk) (C : Cal) (i11 : Int) (h : Heap) : Q14x26 M C (.exit 1) (S14xe1 i11 h) = (
  letK ((IntKind.wrap .i64 (2 * i11)) : Int) fun i76 =>
  some (.tup [(.int .i64 i76), (.int .i64 0)], h)
  ) := by kernel_rfl
def k30x5 : AC := .ret
def k30x4 : AC := .seq (.mask 16) k30x5
def k30x3 : AC := .mask 3
def k30x2 : AC := .seq (.cond (.tmp 16)
   (.seq (.ops false [
      ⟨(some 4), .move (.c (.int .i64 (-1))), none, []⟩]) k30x4)
   (.skip)) k30x3
def k30x14 : AC := .ret
def k30x13 : AC := .seq (.mask 16) k30x14
def k30x12 : AC := .mask 97
def k30x11 : AC := .seq (.cond (.tmp 38)
   (.seq (.ops false [
      ⟨(some 4), .move (.c (.int .i64 (-1))), none, []⟩]) k30x13)
   (.skip)) k30x12
def k30x10 : AC := .seq (.ops false [
    ⟨(some 33), .move (.tmp 5), none, []⟩,
    ⟨(some 34), .move (.tmp 0), none, []⟩,
    ⟨(some 35), .nilCheck (.tmp 34), none, []⟩,
    ⟨(some 36), .fieldAddr 5 (.tmp 35), none, []⟩,
    ⟨(some 37), .load (.cell (.int .i64)) (.tmp 36), none, []⟩,
    ⟨(some 38), .bin .other .lss (.tmp 33) (.tmp 37), none, []⟩]) k30x11
def k30x9 : AC := .join 97
def k30x8 : AC := .seq (.cond (.tmp 28)
   (.seq (.ops false [
      ⟨(some 29), .move (.tmp 0), none, []⟩,
      ⟨(some 30), .nilCheck (.tmp 29), none, []⟩,
      ⟨(some 31), .fieldAddr 6 (.tmp 30), none, []⟩,
      ⟨(some 32), .load (.cell (.int .i64)) (.tmp 31), none, []⟩,
      ⟨(some 6), .move (.tmp 32), none, []⟩]) k30x10)
   (.skip)) k30x9
def k30x20 : AC := .ret
def k30x19 : AC := .seq (.mask 16) k30x20
def k30x18 : AC := .mask 97
def k30x17 : AC := .seq (.cond (.tmp 41)
   (.seq (.ops false [
      ⟨(some 4), .move (.c (.int .i64 (-1))), none, []⟩]) k30x19)
   (.skip)) k30x18
def k30x26 : AC := .ret
def k30x25 : AC := .seq (.mask 16) k30x26
def k30x24 : AC := .mask 256
def k30x23 : AC := .seq (.cond (.tmp 62)
   (.seq (.ops false [
      ⟨(some 4), .move (.c (.int .i64 (-1))), none, []⟩]) k30x25)
   (.skip)) k30x24
def k30x28 : AC := .ret
def k30x27 : AC := .seq (.mask 16) k30x28
def k30x22 : AC := .seq (.ops false [
    ⟨(some 63), .move (.tmp 8), none, []⟩,
    ⟨(some 4), .move (.tmp 63), none, []⟩]) k30x27
def k30x21 : AC := .seq (.seq (.ops true [
    ⟨(some 54), .move (.tmp 9), none, []⟩,
    ⟨(some 55), .un .not (.tmp 54), none, []⟩,
    ⟨(some 56), .move (.tmp 55), none, []⟩,
    ⟨(some 57), .move (.tmp 5), (some (56, false)), []⟩,
    ⟨(some 58), .move (.tmp 8), (some (56, false)), []⟩,
    ⟨(some 59), .bin .other .add (.tmp 57) (.tmp 58), (some (56, false)), []⟩,
    ⟨(some 60), .move (.tmp 6), (some (56, false)), []⟩,
    ⟨(some 61), .bin .other .geq (.tmp 59) (.tmp 60), (some (56, false)), []⟩,
    ⟨(some 62), .pick (.tmp 56) (.c (.bool true)) (.tmp 61), none, []⟩]) k30x23) k30x22
def k30x16 : AC := .seq (.ops false [
    ⟨(some 43), .move (.tmp 0), none, []⟩,
    ⟨(some 44), .nilCheck (.tmp 43), none, []⟩,
    ⟨(some 45), .fieldAddr 0 (.tmp 44), none, []⟩,
    ⟨(some 46), .load (.cell .sl) (.tmp 45), none, []⟩,
    ⟨(some 47), .move (.tmp 5), none, []⟩,
    ⟨(some 48), .indexAddr 1 (.tmp 46) (.tmp 47), none, []⟩,
    ⟨(some 49), .load (.cell (.int .i64)) (.tmp 48), none, []⟩,
    ⟨(some 50), .call 31 [(.tmp 49)] [(.cell (.int .i64)), (.cell (.int .i64)), (.cell .bool)] .opq, none, []⟩,
    ⟨(some 42), .move (.tmp 50), none, []⟩,
    ⟨(some 51), .extract (.tmp 42) 0, none, []⟩,
    ⟨(some 52), .extract (.tmp 42) 1, none, []⟩,
    ⟨(some 53), .extract (.tmp 42) 2, none, []⟩,
    ⟨(some 7), .move (.tmp 51), none, []⟩,
    ⟨(some 8), .move (.tmp 52), none, []⟩,
    ⟨(some 9), .move (.tmp 53), none, []⟩]) k30x21
def k30x7 : AC := .seq (.seq (.ops false [
    ⟨(some 39), .move (.tmp 5), none, []⟩,
    ⟨(some 40), .move (.tmp 6), none, []⟩,
    ⟨(some 41), .bin .other .geq (.tmp 39) (.tmp 40), none, []⟩]) k30x17) k30x16
def k30x6 : AC := .seq (.seq (.ops false [
    ⟨(some 23), .move (.tmp 5), none, []⟩,
    ⟨(some 24), .move (.tmp 0), none, []⟩,
    ⟨(some 25), .nilCheck (.tmp 24), none, []⟩,
    ⟨(some 26), .fieldAddr 2 (.tmp 25), none, []⟩,
    ⟨(some 27), .load (.cell (.int .i64)) (.tmp 26), none, []⟩,
    ⟨(some 28), .bin .other .geq (.tmp 23) (.tmp 27), none, []⟩]) k30x8) k30x7
def k30x1 : AC := .seq (.ops false [
    ⟨(some 17), .move (.tmp 1), none, []⟩,
    ⟨(some 18), .bin .other .quo (.tmp 17) (.c (.int .i64 2)), none, []⟩,
    ⟨(some 19), .move (.tmp 0), none, []⟩,
    ⟨(some 20), .nilCheck (.tmp 19), none, []⟩,
    ⟨(some 21), .fieldAddr 3 (.tmp 20), none, []⟩,
    ⟨(some 22), .load (.cell (.int .i64)) (.tmp 21), none, []⟩,
    ⟨(some 5), .move (.tmp 18), none, []⟩,
    ⟨(some 6), .move (.tmp 22), none, []⟩]) k30x6
def k30x0 : AC := .seq (.seq (.ops true [
    ⟨(some 10), .move (.tmp 1), none, []⟩,
    ⟨(some 11), .bin .other .leq (.tmp 10) (.c (.int .i64 0)), none, []⟩,
    ⟨(some 12), .move (.tmp 11), none, []⟩,
    ⟨(some 13), .move (.tmp 1), (some (12, false)), []⟩,
    ⟨(some 14), .bin .other .and (.tmp 13) (.c (.int .i64 1)), (some (12, false)), []⟩,
    ⟨(some 15), .bin .other .neq (.tmp 14) (.c (.int .i64 0)), (some (12, false)), []⟩,
    ⟨(some 16), .pick (.tmp 12) (.c (.bool true)) (.tmp 15), none, []⟩]) k30x2) k30x1
/-- (*provenance/heap.Heap).object -/
def c30 : AFn := ⟨64, [.tmp 4],
  .seq (.ops false [
    ⟨(some 4), .move (.c (.int .i64 0)), none, []⟩]) k30x0⟩
noncomputable def J30x15 (M : Mk) (C : Cal) (p0 : Option Ad) (i5 : Int) (i6 : Int) (h : Heap) : Res := M (AV × Heap) (seqQ (evalE M C k30x7) (endQ [.tmp 4])) (.g [] true (.ptr p0) :: (rep 4 (.g [] true (.int .i64 i5) :: (.g [] true (.int .i64 i6) :: (rep 57 []))))) h
theorem r30 (p0 : Option Ad) (i1 : Int) (h : Heap) : runE M C c30 [(.ptr p0), (.int .i64 i1)] h = (
  letK ((decide ((i1 : Int) ≤ 0)) : Bool) fun b11 =>
  letK ((Go.bits .and .i64 i1 1) : Int) fun i14 =>
  letK ((!decide ((i14 : Int) = 0)) : Bool) fun b15 =>
  letK ((if b11 = true then true else b15) : Bool) fun b16 =>
  if b16 = true then
    (
    some ((.int .i64 (-1)), h)
    )
  else
    (
    letK ((IntKind.wrap .i64 (Int.tdiv i1 2)) : Int) fun i18 =>
    atP p0 true fun a20 =>
    gI .i64 (ld1 h (Ad.add a20 3)) true fun i22 =>
    atP p0 true fun a25 =>
    gI .i64 (ld1 h (Ad.add a25 2)) true fun i27 =>
    letK ((decide ((i27 : Int) ≤ i18)) : Bool) fun b28 =>
    if b28 = true then
      (
      atP p0 true fun a30 =>
      gI .i64 (ld1 h (Ad.add a30 6)) true fun i32 =>
      atP p0 true fun a35 =>
      gI .i64 (ld1 h (Ad.add a35 5)) true fun i37 =>
      letK ((decide ((i18 : Int) < i37)) : Bool) fun b38 =>
      if b38 = true then
        (
        some ((.int .i64 (-1)), h)
        )
      else
        (
        J30x15 M C p0 i18 i32 h
        )
      )
    else
      (
      J30x15 M C p0 i18 i22 h
      )
    )
  ) := by kernel_rfl
theorem cf30 : cFn Try.prog 30 = some c30 := by kernel_rfl
theorem e30 (p0 : Option Ad) (i1 : Int) (h : Heap) : E 30 [(.ptr p0), (.int .i64 i1)] h = (
  letK ((decide ((i1 : Int) ≤ 0)) : Bool) fun b11 =>
  letK ((Go.bits .and .i64 i1 1) : Int) fun i14 =>
  letK ((!decide ((i14 : Int) = 0)) : Bool) fun b15 =>
  letK ((if b11 = true then true else b15) : Bool) fun b16 =>
  if b16 = true then
    (
    some ((.int .i64 (-1)), h)
    )
  else
    (
    letK ((IntKind.wrap .i64 (Int.tdiv i1 2)) : Int) fun i18 =>
    atP p0 true fun a20 =>
    gI .i64 (ld1 h (Ad.add a20 3)) true fun i22 =>
    atP p0 true fun a25 =>
    gI .i64 (ld1 h (Ad.add a25 2)) true fun i27 =>
    letK ((decide ((i27 : Int) ≤ i18)) : Bool) fun b28 =>
    if b28 = true then
      (
      atP p0 true fun a30 =>
      gI .i64 (ld1 h (Ad.add a30 6)) true fun i32 =>
      atP p0 true fun a35 =>
      gI .i64 (ld1 h (Ad.add a35 5)) true fun i37 =>
      letK ((decide ((i18 : Int) < i37)) : Bool) fun b38 =>
      if b38 = true then
        (
        some ((.int .i64 (-1)), h)
        )
      else
        (
        J30x15 mk0 E p0 i18 i32 h
        )
      )
    else
      (
      J30x15 mk0 E p0 i18 i22 h
      )
    )
  ) := (EV_eq (P := Try.prog) (T := T0) rfl cf30 [(.ptr p0), (.int .i64 i1)] h).trans (r30 mk0 E p0 i1 h)
theorem J30x15xaux (M : Mk) (C : Cal) (p0 : Option Ad) (i5 : Int) (i6 : Int) (h : Heap) : (forceK tk (.g [] true (.ptr p0) :: (rep 4 (.g [] true (.int .i64 i5) :: (.g [] true (.int .i64 i6) :: (rep 57 []))))) fun e => (seqQ (evalE M C k30x7) (endQ [.tmp 4])) .normal ⟨e, h⟩) = (
  letK ((decide ((i6 : Int) ≤ i5)) : Bool) fun b41 =>
  if b41 = true then
    (
    some ((.int .i64 (-1)), h)
    )
  else
    (
    atP p0 true fun a44 =>
    gL (ld1 h (Ad.add a44 0)) true fun s46 n46 =>
    chk (true = true → (0 : Int) ≤ i5 ∧ (i5 : Int) < ((n46 : Nat) : Int)) <|
    atP (adP s46) true fun a48 =>
    gI .i64 (ld1 h (Ad.add a48 (Int.toNat i5 * 1))) true fun i49 =>
    (C 31 [(.int .i64 i49)] h).bind fun r50 =>
    gT 3 r50.1 true fun u50 =>
    gI .i64 (some (List.getD u50 0 .opq)) true fun i50x0 =>
    gI .i64 (some (List.getD u50 1 .opq)) true fun i50x1 =>
    gB (some (List.getD u50 2 .opq)) true fun b50x2 =>
    letK ((IntKind.wrap .i64 (i5 + i50x1)) : Int) fun i59 =>
    letK ((decide ((i6 : Int) ≤ i59)) : Bool) fun b61 =>
    letK ((if (!b50x2) = true then true else b61) : Bool) fun b62 =>
    if b62 = true then
      (
      some ((.int .i64 (-1)), r50.2)
      )
    else
      (
      some ((.int .i64 i50x1), r50.2)
      )
    )
  ) := by kernel_rfl
theorem J30x15xeq (C : Cal) (p0 : Option Ad) (i5 : Int) (i6 : Int) (h : Heap) : J30x15 mk0 C p0 i5 i6 h = (
  letK ((decide ((i6 : Int) ≤ i5)) : Bool) fun b41 =>
  if b41 = true then
    (
    some ((.int .i64 (-1)), h)
    )
  else
    (
    atP p0 true fun a44 =>
    gL (ld1 h (Ad.add a44 0)) true fun s46 n46 =>
    chk (true = true → (0 : Int) ≤ i5 ∧ (i5 : Int) < ((n46 : Nat) : Int)) <|
    atP (adP s46) true fun a48 =>
    gI .i64 (ld1 h (Ad.add a48 (Int.toNat i5 * 1))) true fun i49 =>
    (C 31 [(.int .i64 i49)] h).bind fun r50 =>
    gT 3 r50.1 true fun u50 =>
    gI .i64 (some (List.getD u50 0 .opq)) true fun i50x0 =>
    gI .i64 (some (List.getD u50 1 .opq)) true fun i50x1 =>
    gB (some (List.getD u50 2 .opq)) true fun b50x2 =>
    letK ((IntKind.wrap .i64 (i5 + i50x1)) : Int) fun i59 =>
    letK ((decide ((i6 : Int) ≤ i59)) : Bool) fun b61 =>
    letK ((if (!b50x2) = true then true else b61) : Bool) fun b62 =>
    if b62 = true then
      (
      some ((.int .i64 (-1)), r50.2)
      )
    else
      (
      some ((.int .i64 i50x1), r50.2)
      )
    )
  ) := join_eqn (seqQ (evalE mk0 C k30x7) (endQ [.tmp 4])) (.g [] true (.ptr p0) :: (rep 4 (.g [] true (.int .i64 i5) :: (.g [] true (.int .i64 i6) :: (rep 57 []))))) h (J30x15xaux mk0 C p0 i5 i6 h)
def k15x5 : AC := .ret
def k15x4 : AC := .seq (.mask 112) k15x5
def k15x3 : AC := .mask 3
def k15x2 : AC := .seq (.cond (.tmp 13)
   (.seq (.ops false [
      ⟨(some 4), .move (.c (.int .i64 0)), none, []⟩,
      ⟨(some 5), .move (.c (.int .i64 0)), none, []⟩,
      ⟨(some 6), .move (.c (.int .i64 1)), none, []⟩]) k15x4)
   (.skip)) k15x3
def k15x8 : AC := .ret
def k15x7 : AC := .seq (.mask 112) k15x8
def k15x6 : AC := .seq (.ops false [
    ⟨(some 27), .move (.tmp 7), none, []⟩,
    ⟨(some 28), .move (.tmp 8), none, []⟩,
    ⟨(some 4), .move (.tmp 27), none, []⟩,
    ⟨(some 5), .move (.tmp 28), none, []⟩,
    ⟨(some 6), .move (.c (.int .i64 0)), none, []⟩]) k15x7
def k15x1 : AC := .seq (.ops false [
    ⟨(some 15), .move (.tmp 0), none, []⟩,
    ⟨(some 16), .nilCheck (.tmp 15), none, []⟩,
    ⟨(some 17), .fieldAddr 0 (.tmp 16), none, []⟩,
    ⟨(some 18), .load (.cell .sl) (.tmp 17), none, []⟩,
    ⟨(some 19), .move (.tmp 1), none, []⟩,
    ⟨(some 20), .bin .other .quo (.tmp 19) (.c (.int .i64 2)), none, []⟩,
    ⟨(some 21), .indexAddr 1 (.tmp 18) (.tmp 20), none, []⟩,
    ⟨(some 22), .load (.cell (.int .i64)) (.tmp 21), none, []⟩,
    ⟨(some 23), .call 31 [(.tmp 22)] [(.cell (.int .i64)), (.cell (.int .i64)), (.cell .bool)] .opq, none, []⟩,
    ⟨(some 14), .move (.tmp 23), none, []⟩,
    ⟨(some 24), .extract (.tmp 14) 0, none, []⟩,
    ⟨(some 25), .extract (.tmp 14) 1, none, []⟩,
    ⟨(some 26), .extract (.tmp 14) 2, none, []⟩,
    ⟨(some 7), .move (.tmp 24), none, []⟩,
    ⟨(some 8), .move (.tmp 25), none, []⟩,
    ⟨(some 9), .move (.tmp 26), none, []⟩]) k15x6
def k15x0 : AC := .seq (.seq (.ops false [
    ⟨(some 10), .move (.tmp 0), none, []⟩,
    ⟨(some 11), .move (.tmp 1), none, []⟩,
    ⟨(some 12), .call 30 [(.tmp 10), (.tmp 11)] [(.cell (.int .i64))] (.int .i64 0), none, []⟩,
    ⟨(some 13), .bin .other .lss (.tmp 12) (.c (.int .i64 0)), none, []⟩]) k15x2) k15x1
/-- (*provenance/heap.Heap).Tag -/
def c15 : AFn := ⟨29, [.tmp 4, .tmp 5, .tmp 6],
  .seq (.ops false [
    ⟨(some 4), .move (.c (.int .i64 0)), none, []⟩,
    ⟨(some 5), .move (.c (.int .i64 0)), none, []⟩,
    ⟨(some 6), .move (.c (.int .i64 0)), none, []⟩]) k15x0⟩
theorem r15 (p0 : Option Ad) (i1 : Int) (h : Heap) : runE M C c15 [(.ptr p0), (.int .i64 i1)] h = (
  (C 30 [(.ptr p0), (.int .i64 i1)] h).bind fun r12 =>
  gI .i64 (some r12.1) true fun i12 =>
  letK ((decide ((i12 : Int) < 0)) : Bool) fun b13 =>
  if b13 = true then
    (
    some (.tup [(.int .i64 0), (.int .i64 0), (.int .i64 1)], r12.2)
    )
  else
    (
    atP p0 true fun a16 =>
    gL (ld1 r12.2 (Ad.add a16 0)) true fun s18 n18 =>
    letK ((IntKind.wrap .i64 (Int.tdiv i1 2)) : Int) fun i20 =>
    chk (true = true → (0 : Int) ≤ i20 ∧ (i20 : Int) < ((n18 : Nat) : Int)) <|
    atP (adP s18) true fun a21 =>
    gI .i64 (ld1 r12.2 (Ad.add a21 (Int.toNat i20 * 1))) true fun i22 =>
    (C 31 [(.int .i64 i22)] r12.2).bind fun r23 =>
    gT 3 r23.1 true fun u23 =>
    gI .i64 (some (List.getD u23 0 .opq)) true fun i23x0 =>
    gI .i64 (some (List.getD u23 1 .opq)) true fun i23x1 =>
    gB (some (List.getD u23 2 .opq)) true fun b23x2 =>
    some (.tup [(.int .i64 i23x0), (.int .i64 i23x1), (.int .i64 0)], r23.2)
    )
  ) := by kernel_rfl
theorem cf15 : cFn Try.prog 15 = some c15 := by kernel_rfl
theorem e15 (p0 : Option Ad) (i1 : Int) (h : Heap) : E 15 [(.ptr p0), (.int .i64 i1)] h = (
  (E 30 [(.ptr p0), (.int .i64 i1)] h).bind fun r12 =>
  gI .i64 (some r12.1) true fun i12 =>
  letK ((decide ((i12 : Int) < 0)) : Bool) fun b13 =>
  if b13 = true then
    (
    some (.tup [(.int .i64 0), (.int .i64 0), (.int .i64 1)], r12.2)
    )
  else
    (
    atP p0 true fun a16 =>
    gL (ld1 r12.2 (Ad.add a16 0)) true fun s18 n18 =>
    letK ((IntKind.wrap .i64 (Int.tdiv i1 2)) : Int) fun i20 =>
    chk (true = true → (0 : Int) ≤ i20 ∧ (i20 : Int) < ((n18 : Nat) : Int)) <|
    atP (adP s18) true fun a21 =>
    gI .i64 (ld1 r12.2 (Ad.add a21 (Int.toNat i20 * 1))) true fun i22 =>
    (E 31 [(.int .i64 i22)] r12.2).bind fun r23 =>
    gT 3 r23.1 true fun u23 =>
    gI .i64 (some (List.getD u23 0 .opq)) true fun i23x0 =>
    gI .i64 (some (List.getD u23 1 .opq)) true fun i23x1 =>
    gB (some (List.getD u23 2 .opq)) true fun b23x2 =>
    some (.tup [(.int .i64 i23x0), (.int .i64 i23x1), (.int .i64 0)], r23.2)
    )
  ) := (EV_eq (P := Try.prog) (T := T0) rfl cf15 [(.ptr p0), (.int .i64 i1)] h).trans (r15 mk0 E p0 i1 h)
def k16x2 : AC := .ret
def k16x1 : AC := .seq (.mask 12) k16x2
def k16x0 : AC := .seq (.ops false [
    ⟨(some 4), .move (.tmp 0), none, []⟩,
    ⟨(some 5), .nilCheck (.tmp 4), none, []⟩,
    ⟨(some 6), .fieldAddr 3 (.tmp 5), none, []⟩,
    ⟨(some 7), .load (.cell (.int .i64)) (.tmp 6), none, []⟩,
    ⟨(some 8), .bin .other .sub (.tmp 7) (.c (.int .i64 1)), none, []⟩,
    ⟨(some 9), .move (.tmp 0), none, []⟩,
    ⟨(some 10), .nilCheck (.tmp 9), none, []⟩,
    ⟨(some 11), .fieldAddr 6 (.tmp 10), none, []⟩,
    ⟨(some 12), .load (.cell (.int .i64)) (.tmp 11), none, []⟩,
    ⟨(some 13), .move (.tmp 0), none, []⟩,
    ⟨(some 14), .nilCheck (.tmp 13), none, []⟩,
    ⟨(some 15), .fieldAddr 5 (.tmp 14), none, []⟩,
    ⟨(some 16), .load (.cell (.int .i64)) (.tmp 15), none, []⟩,
    ⟨(some 17), .bin .other .sub (.tmp 12) (.tmp 16), none, []⟩,
    ⟨(some 2), .move (.tmp 8), none, []⟩,
    ⟨(some 3), .move (.tmp 17), none, []⟩]) k16x1
/-- (*provenance/heap.Heap).Used -/
def c16 : AFn := ⟨18, [.tmp 2, .tmp 3],
  .seq (.ops false [
    ⟨(some 2), .move (.c (.int .i64 0)), none, []⟩,
    ⟨(some 3), .move (.c (.int .i64 0)), none, []⟩]) k16x0⟩
theorem r16 (p0 : Option Ad) (h : Heap) : runE M C c16 [(.ptr p0)] h = (
  atP p0 true fun a5 =>
  gI .i64 (ld1 h (Ad.add a5 3)) true fun i7 =>
  letK ((IntKind.wrap .i64 (i7 - 1)) : Int) fun i8 =>
  atP p0 true fun a10 =>
  gI .i64 (ld1 h (Ad.add a10 6)) true fun i12 =>
  atP p0 true fun a14 =>
  gI .i64 (ld1 h (Ad.add a14 5)) true fun i16 =>
  letK ((IntKind.wrap .i64 (i12 - i16)) : Int) fun i17 =>
  some (.tup [(.int .i64 i8), (.int .i64 i17)], h)
  ) := by kernel_rfl
theorem cf16 : cFn Try.prog 16 = some c16 := by kernel_rfl
theorem e16 (p0 : Option Ad) (h : Heap) : E 16 [(.ptr p0)] h = (
  atP p0 true fun a5 =>
  gI .i64 (ld1 h (Ad.add a5 3)) true fun i7 =>
  letK ((IntKind.wrap .i64 (i7 - 1)) : Int) fun i8 =>
  atP p0 true fun a10 =>
  gI .i64 (ld1 h (Ad.add a10 6)) true fun i12 =>
  atP p0 true fun a14 =>
  gI .i64 (ld1 h (Ad.add a14 5)) true fun i16 =>
  letK ((IntKind.wrap .i64 (i12 - i16)) : Int) fun i17 =>
  some (.tup [(.int .i64 i8), (.int .i64 i17)], h)
  ) := (EV_eq (P := Try.prog) (T := T0) rfl cf16 [(.ptr p0)] h).trans (r16 mk0 E p0 h)
def k32x9 : AC := .exit 0
def k32x8 : AC := .mask 773
def k32x7 : AC := .seq (.cond (.tmp 16)
   (.skip)
   (.seq (.mask 256) k32x9)) k32x8
def k32x16 : AC := .ret
def k32x15 : AC := .seq (.mask 192) k32x16
def k32x14 : AC := .mask 2821
def k32x13 : AC := .seq (.cond (.tmp 30)
   (.seq (.ops false [
      ⟨(some 6), .move (.c (.sl .nil 0)), none, []⟩,
      ⟨(some 7), .move (.c (.bool false)), none, []⟩]) k32x15)
   (.skip)) k32x14
def k32x22 : AC := .ret
def k32x21 : AC := .seq (.mask 192) k32x22
def k32x20 : AC := .mask 773
def k32x19 : AC := .seq (.cond (.tmp 41)
   (.seq (.ops false [
      ⟨(some 6), .move (.c (.sl .nil 0)), none, []⟩,
      ⟨(some 7), .move (.c (.bool false)), none, []⟩]) k32x21)
   (.skip)) k32x20
def k32x18 : AC := .seq (.ops false [
    ⟨(some 39), .move (.tmp 9), none, []⟩,
    ⟨(some 40), .move (.tmp 2), none, []⟩,
    ⟨(some 41), .bin .other .gtr (.tmp 39) (.tmp 40), none, []⟩]) k32x19
def k32x17 : AC := .seq (.ops false [
    ⟨(some 35), .move (.tmp 9), none, []⟩,
    ⟨(some 36), .move (.tmp 11), none, []⟩,
    ⟨(some 37), .bin .other .add (.tmp 36) (.c (.int .i64 1)), none, []⟩,
    ⟨(some 38), .bin .other .add (.tmp 35) (.tmp 37), none, []⟩,
    ⟨(some 9), .move (.tmp 38), none, []⟩]) k32x18
def k32x12 : AC := .seq (.ops false [
    ⟨(some 31), .move (.tmp 8), none, []⟩,
    ⟨(some 32), .move (.tmp 9), none, []⟩,
    ⟨(some 33), .buildSl [(.int .i64 0)] 1 [(0, (.tmp 32))], none, []⟩,
    ⟨(some 34), .append [(.int .i64 0)] 1 8 (.tmp 31) (.tmp 33), none, []⟩,
    ⟨(some 8), .move (.tmp 34), none, []⟩]) k32x17
def k32x11 : AC := .seq (.seq (.ops false [
    ⟨(some 29), .move (.tmp 12), none, []⟩,
    ⟨(some 30), .un .not (.tmp 29), none, []⟩]) k32x13) k32x12
def k32x10 : AC := .mask 773
def k32x6 : AC := .seq (.block 1 (.seq (.ops false [
     ⟨(some 18), .move (.tmp 0), none, []⟩,
     ⟨(some 19), .nilCheck (.tmp 18), none, []⟩,
     ⟨(some 20), .fieldAddr 0 (.tmp 19), none, []⟩,
     ⟨(some 21), .load (.cell .sl) (.tmp 20), none, []⟩,
     ⟨(some 22), .move (.tmp 9), none, []⟩,
     ⟨(some 23), .indexAddr 1 (.tmp 21) (.tmp 22), none, []⟩,
     ⟨(some 24), .load (.cell (.int .i64)) (.tmp 23), none, []⟩,
     ⟨(some 25), .call 31 [(.tmp 24)] [(.cell (.int .i64)), (.cell (.int .i64)), (.cell .bool)] .opq, none, []⟩,
     ⟨(some 17), .move (.tmp 25), none, []⟩,
     ⟨(some 26), .extract (.tmp 17) 0, none, []⟩,
     ⟨(some 27), .extract (.tmp 17) 1, none, []⟩,
     ⟨(some 28), .extract (.tmp 17) 2, none, []⟩,
     ⟨(some 10), .move (.tmp 26), none, []⟩,
     ⟨(some 11), .move (.tmp 27), none, []⟩,
     ⟨(some 12), .move (.tmp 28), none, []⟩]) k32x11)) k32x10
def k32x5 : AC := .seq (.seq (.ops false [
    ⟨(some 14), .move (.tmp 9), none, []⟩,
    ⟨(some 15), .move (.tmp 2), none, []⟩,
    ⟨(some 16), .bin .other .lss (.tmp 14) (.tmp 15), none, []⟩]) k32x7) k32x6
def k32x4 : AC := .mask 256
def k32x3 : AC := .seq (.block 0 (.loop 773 256 k32x5)) k32x4
def k32x24 : AC := .ret
def k32x23 : AC := .seq (.mask 192) k32x24
def k32x2 : AC := .seq (.ops false [
    ⟨(some 42), .move (.tmp 8), none, []⟩,
    ⟨(some 6), .move (.tmp 42), none, []⟩,
    ⟨(some 7), .move (.c (.bool true)), none, []⟩]) k32x23
def k32x1 : AC := .seq (.seq (.ops false [
    ⟨(some 13), .move (.tmp 1), none, []⟩,
    ⟨(some 9), .move (.tmp 13), none, []⟩]) k32x3) k32x2
def k32x0 : AC := .seq (.ops false [
    ⟨(some 8), .move (.c (.sl .nil 0)), none, []⟩]) k32x1
/-- (*provenance/heap.Heap).objects -/
def c32 : AFn := ⟨43, [.tmp 6, .tmp 7],
  .seq (.ops false [
    ⟨(some 6), .move (.c (.sl .nil 0)), none, []⟩,
    ⟨(some 7), .move (.c (.bool false)), none, []⟩]) k32x0⟩
def S32xr (s6 : SA) (n6 : Nat) (b7 : Bool) (h : Heap) : St := ⟨(rep 6 (.g [] true (.sl s6 n6) :: (.g [] true (.bool b7) :: (rep 35 [])))), h⟩
def S32xe0 (s8 : SA) (n8 : Nat) (h : Heap) : St := ⟨(rep 8 (.g [] true (.sl s8 n8) :: (rep 34 []))), h⟩
noncomputable def Q32x5 (M : Mk) (C : Cal) : Kont (AV × Heap) := (blockQ 0 (seqQ (evalE M C k32x4) (seqQ (evalE M C k32x2) (endQ [.tmp 6, .tmp 7]))))
noncomputable def L32x5 (p0 : Option Ad) (i2 : Int) (s8 : SA) (n8 : Nat) (i9 : Int) (h : Heap) (Q : Kont R) : Option R := loopE (evalE M C k32x5) 773 256 ⟨(.g [] true (.ptr p0) :: (.any :: (.g [] true (.int .i64 i2) :: (rep 5 (.g [] true (.sl s8 n8) :: (.g [] true (.int .i64 i9) :: (rep 33 []))))))), h⟩ Q
theorem r32 (p0 : Option Ad) (i1 : Int) (i2 : Int) (h : Heap) : runE M C c32 [(.ptr p0), (.int .i64 i1), (.int .i64 i2)] h = (
  L32x5 M C p0 i2 .nil 0 i1 h (Q32x5 M C)
  ) := by kernel_rfl
theorem cf32 : cFn Try.prog 32 = some c32 := by kernel_rfl
theorem e32 (p0 : Option Ad) (i1 : Int) (i2 : Int) (h : Heap) : E 32 [(.ptr p0), (.int .i64 i1), (.int .i64 i2)] h = (
  L32x5 mk0 E p0 i2 .nil 0 i1 h (Q32x5 mk0 E)
  ) := (EV_eq (P := Try.prog) (T := T0) rfl cf32 [(.ptr p0), (.int .i64 i1), (.int .i64 i2)] h).trans (r32 mk0 E p0 i1 i2 h)
theorem L32x5xaux (p0 : Option Ad) (i2 : Int) (s8 : SA) (n8 : Nat) (i9 : Int) (h : Heap) (Q : Kont R) : (restrF 773 ⟨(.g [] true (.ptr p0) :: (.any :: (.g [] true (.int .i64 i2) :: (rep 5 (.g [] true (.sl s8 n8) :: (.g [] true (.int .i64 i9) :: (rep 33 []))))))), h⟩ fun σ => evalE M C k32x5 σ (roundQ M C k32x5 773 256 Q)) = (
  letK ((decide ((i9 : Int) < i2)) : Bool) fun b16 =>
  if b16 = true then
    (
    atP p0 true fun a19 =>
    gL (ld1 h (Ad.add a19 0)) true fun s21 n21 =>
    chk (true = true → (0 : Int) ≤ i9 ∧ (i9 : Int) < ((n21 : Nat) : Int)) <|
    atP (adP s21) true fun a23 =>
    gI .i64 (ld1 h (Ad.add a23 (Int.toNat i9 * 1))) true fun i24 =>
    (C 31 [(.int .i64 i24)] h).bind fun r25 =>
    gT 3 r25.1 true fun u25 =>
    gI .i64 (some (List.getD u25 0 .opq)) true fun i25x0 =>
    gI .i64 (some (List.getD u25 1 .opq)) true fun i25x1 =>
    gB (some (List.getD u25 2 .opq)) true fun b25x2 =>
    if (!b25x2) = true then
      (
      Q .ret (S32xr .nil 0 false r25.2)
      )
    else
      (
      newK r25.2 (.cells [(.int .i64 i9)] (.grow 1) 0) fun h_2 =>
      (ldSl h_2 (.pos ⟨List.length r25.2, 0, 0⟩) (1 * 1)).bind fun y34 =>
      (apnd h_2 (.sl s8 n8) 1 8 y34 1).bind fun r34 =>
      gL (some r34.1) true fun s34 n34 =>
      letK ((IntKind.wrap .i64 (i25x1 + 1)) : Int) fun i37 =>
      letK ((IntKind.wrap .i64 (i9 + i37)) : Int) fun i38 =>
      letK ((decide ((i2 : Int) < i38)) : Bool) fun b41 =>
      if b41 = true then
        (
        Q .ret (S32xr .nil 0 false r34.2)
        )
      else
        (
        L32x5 M C p0 i2 s34 n34 i38 r34.2 Q
        )
      )
    )
  else
    (
    Q (.exit 0) (S32xe0 s8 n8 h)
    )
  ) := by kernel_rfl
theorem L32x5xeq (p0 : Option Ad) (i2 : Int) (s8 : SA) (n8 : Nat) (i9 : Int) (h : Heap) (Q : Kont R) : L32x5 mk0 C p0 i2 s8 n8 i9 h Q = (
  letK ((decide ((i9 : Int) < i2)) : Bool) fun b16 =>
  if b16 = true then
    (
    atP p0 true fun a19 =>
    gL (ld1 h (Ad.add a19 0)) true fun s21 n21 =>
    chk (true = true → (0 : Int) ≤ i9 ∧ (i9 : Int) < ((n21 : Nat) : Int)) <|
    atP (adP s21) true fun a23 =>
    gI .i64 (ld1 h (Ad.add a23 (Int.toNat i9 * 1))) true fun i24 =>
    (C 31 [(.int .i64 i24)] h).bind fun r25 =>
    gT 3 r25.1 true fun u25 =>
    gI .i64 (some (List.getD u25 0 .opq)) true fun i25x0 =>
    gI .i64 (some (List.getD u25 1 .opq)) true fun i25x1 =>
    gB (some (List.getD u25 2 .opq)) true fun b25x2 =>
    if (!b25x2) = true then
      (
      Q .ret (S32xr .nil 0 false r25.2)
      )
    else
      (
      newK r25.2 (.cells [(.int .i64 i9)] (.grow 1) 0) fun h_2 =>
      (ldSl h_2 (.pos ⟨List.length r25.2, 0, 0⟩) (1 * 1)).bind fun y34 =>
      (apnd h_2 (.sl s8 n8) 1 8 y34 1).bind fun r34 =>
      gL (some r34.1) true fun s34 n34 =>
      letK ((IntKind.wrap .i64 (i25x1 + 1)) : Int) fun i37 =>
      letK ((IntKind.wrap .i64 (i9 + i37)) : Int) fun i38 =>
      letK ((decide ((i2 : Int) < i38)) : Bool) fun b41 =>
      if b41 = true then
        (
        Q .ret (S32xr .nil 0 false r34.2)
        )
      else
        (
        L32x5 mk0 C p0 i2 s34 n34 i38 r34.2 Q
        )
      )
    )
  else
    (
    Q (.exit 0) (S32xe0 s8 n8 h)
    )
  ) := loop_eqn C k32x5 773 256 (.g [] true (.ptr p0) :: (.any :: (.g [] true (.int .i64 i2) :: (rep 5 (.g [] true (.sl s8 n8) :: (.g [] true (.int .i64 i9) :: (rep 33 []))))))) h Q (by kernel_rfl) (L32x5xaux mk0 C p0 i2 s8 n8 i9 h Q)
theorem X32x5xr (M : Mk) (C : Cal) (s6 : SA) (n6 : Nat) (b7 : Bool) (h : Heap) : Q32x5 M C .ret (S32xr s6 n6 b7 h) = (
  some (.tup [(.sl s6 n6), (.bool b7)], h)
  ) := by kernel_rfl
theorem X32x5xe0 (M : Mk) (C : Cal) (s8 : SA) (n8 : Nat) (h : Heap) : Q32x5 M C (.exit 0) (S32xe0 s8 n8 h) = (
  some (.tup [(.sl s8 n8), (.bool true)], h)
  ) := by kernel_rfl
def k48x2 : AC := .ret
def k48x1 : AC := .seq (.mask 4) k48x2
def k48x0 : AC := .seq (.ops false [
    ⟨(some 3), .move (.tmp 0), none, []⟩,
    ⟨(some 4), .move (.tmp 0), none, []⟩,
    ⟨(some 5), .bin .other .neq (.tmp 3) (.tmp 4), none, []⟩,
    ⟨(some 2), .move (.tmp 5), none, []⟩]) k48x1
/-- cmp.isNaN[int] -/
def c48 : AFn := ⟨6, [.tmp 2],
  .seq (.ops false [
    ⟨(some 2), .move (.c (.bool false)), none, []⟩]) k48x0⟩
theorem r48 (i0 : Int) (h : Heap) : runE M C c48 [(.int .i64 i0)] h = (
  letK ((!decide ((i0 : Int) = i0)) : Bool) fun b5 =>
  some ((.bool b5), h)
  ) := by kernel_rfl
theorem cf48 : cFn Try.prog 48 = some c48 := by kernel_rfl
theorem e48 (i0 : Int) (h : Heap) : E 48 [(.int .i64 i0)] h = (
  letK ((!decide ((i0 : Int) = i0)) : Bool) fun b5 =>
  some ((.bool b5), h)
  ) := (EV_eq (P := Try.prog) (T := T0) rfl cf48 [(.int .i64 i0)] h).trans (r48 mk0 E i0 h)
def k43x2 : AC := .ret
def k43x1 : AC := .seq (.mask 16) k43x2
def k43x0 : AC := .seq (.ops true [
    ⟨(some 5), .move (.tmp 0), none, []⟩,
    ⟨(some 6), .call 48 [(.tmp 5)] [(.cell .bool)] (.bool false), none, []⟩,
    ⟨(some 7), .move (.tmp 6), none, []⟩,
    ⟨(some 8), .move (.tmp 1), (some (7, true)), []⟩,
    ⟨(some 9), .call 48 [(.tmp 8)] [(.cell .bool)] (.bool false), (some (7, true)), []⟩,
    ⟨(some 10), .un .not (.tmp 9), (some (7, true)), []⟩,
    ⟨(some 11), .pick (.tmp 7) (.tmp 10) (.c (.bool false)), none, []⟩,
    ⟨(some 12), .move (.tmp 11), none, []⟩,
    ⟨(some 13), .move (.tmp 0), (some (12, false)), []⟩,
    ⟨(some 14), .move (.tmp 1), (some (12, false)), []⟩,
    ⟨(some 15), .bin .other .lss (.tmp 13) (.tmp 14), (some (12, false)), []⟩,
    ⟨(some 16), .pick (.tmp 12) (.c (.bool true)) (.tmp 15), none, []⟩,
    ⟨(some 4), .move (.tmp 16), none, []⟩]) k43x1
/-- cmp.Less[int] -/
def c43 : AFn := ⟨17, [.tmp 4],
  .seq (.ops false [
    ⟨(some 4), .move (.c (.bool false)), none, []⟩]) k43x0⟩
theorem r43 (i0 : Int) (i1 : Int) (h : Heap) : runE M C c43 [(.int .i64 i0), (.int .i64 i1)] h = (
  (C 48 [(.int .i64 i0)] h).bind fun r6 =>
  gB (some r6.1) true fun b6 =>
  (callO b6 (C 48 [(.int .i64 i1)] r6.2) (.bool false) r6.2).bind fun r9 =>
  gB (some r9.1) b6 fun b9 =>
  letK ((if b6 = true then (!b9) else false) : Bool) fun b11 =>
  letK ((decide ((i0 : Int) < i1)) : Bool) fun b15 =>
  letK ((if b11 = true then true else b15) : Bool) fun b16 =>
  some ((.bool b16), r9.2)
  ) := by kernel_rfl
theorem cf43 : cFn Try.prog 43 = some c43 := by kernel_rfl
theorem e43 (i0 : Int) (i1 : Int) (h : Heap) : E 43 [(.int .i64 i0), (.int .i64 i1)] h = (
  (E 48 [(.int .i64 i0)] h).bind fun r6 =>
  gB (some r6.1) true fun b6 =>
  (callO b6 (E 48 [(.int .i64 i1)] r6.2) (.bool false) r6.2).bind fun r9 =>
  gB (some r9.1) b6 fun b9 =>
  letK ((if b6 = true then (!b9) else false) : Bool) fun b11 =>
  letK ((decide ((i0 : Int) < i1)) : Bool) fun b15 =>
  letK ((if b11 = true then true else b15) : Bool) fun b16 =>
  some ((.bool b16), r9.2)
  ) := (EV_eq (P := Try.prog) (T := T0) rfl cf43 [(.int .i64 i0), (.int .i64 i1)] h).trans (r43 mk0 E i0 i1 h)
def k44x2 : AC := .ret
def k44x1 : AC := .seq (.mask 4) k44x2
def k44x0 : AC := .seq (.ops false [
    ⟨(some 3), .move (.tmp 0), none, []⟩,
    ⟨(some 4), .move (.tmp 0), none, []⟩,
    ⟨(some 5), .bin .other .neq (.tmp 3) (.tmp 4), none, []⟩,
    ⟨(some 2), .move (.tmp 5), none, []⟩]) k44x1
/-- slices.isNaN[int] -/
def c44 : AFn := ⟨6, [.tmp 2],
  .seq (.ops false [
    ⟨(some 2), .move (.c (.bool false)), none, []⟩]) k44x0⟩
theorem r44 (i0 : Int) (h : Heap) : runE M C c44 [(.int .i64 i0)] h = (
  letK ((!decide ((i0 : Int) = i0)) : Bool) fun b5 =>
  some ((.bool b5), h)
  ) := by kernel_rfl
theorem cf44 : cFn Try.prog 44 = some c44 := by kernel_rfl
theorem e44 (i0 : Int) (h : Heap) : E 44 [(.int .i64 i0)] h = (
  letK ((!decide ((i0 : Int) = i0)) : Bool) fun b5 =>
  some ((.bool b5), h)
  ) := (EV_eq (P := Try.prog) (T := T0) rfl cf44 [(.int .i64 i0)] h).trans (r44 mk0 E i0 h)
def k33x9 : AC := .exit 0
def k33x8 : AC := .mask 451
def k33x7 : AC := .seq (.cond (.tmp 15)
   (.skip)
   (.seq (.mask 195) k33x9)) k33x8
def k33x13 : AC := .join 451
def k33x12 : AC := .seq (.cond (.tmp 27)
   (.ops false [
      ⟨(some 28), .move (.tmp 9), none, []⟩,
      ⟨(some 29), .bin .other .add (.tmp 28) (.c (.int .i64 1)), none, []⟩,
      ⟨(some 7), .move (.tmp 29), none, []⟩])
   (.ops false [
      ⟨(some 30), .move (.tmp 9), none, []⟩,
      ⟨(some 8), .move (.tmp 30), none, []⟩])) k33x13
def k33x11 : AC := .seq (.ops false [
    ⟨(some 22), .move (.tmp 0), none, []⟩,
    ⟨(some 23), .move (.tmp 9), none, []⟩,
    ⟨(some 24), .indexAddr 1 (.tmp 22) (.tmp 23), none, []⟩,
    ⟨(some 25), .load (.cell (.int .i64)) (.tmp 24), none, []⟩,
    ⟨(some 26), .move (.tmp 1), none, []⟩,
    ⟨(some 27), .call 43 [(.tmp 25), (.tmp 26)] [(.cell .bool)] (.bool false), none, []⟩]) k33x12
def k33x10 : AC := .mask 451
def k33x6 : AC := .seq (.block 1 (.seq (.ops false [
     ⟨(some 16), .move (.tmp 7), none, []⟩,
     ⟨(some 17), .move (.tmp 8), none, []⟩,
     ⟨(some 18), .bin .other .add (.tmp 16) (.tmp 17), none, []⟩,
     ⟨(some 19), .conv .u64 (.tmp 18), none, []⟩,
     ⟨(some 20), .bin .other .shr (.tmp 19) (.c (.int .u64 1)), none, []⟩,
     ⟨(some 21), .conv .i64 (.tmp 20), none, []⟩,
     ⟨(some 9), .move (.tmp 21), none, []⟩]) k33x11)) k33x10
def k33x5 : AC := .seq (.seq (.ops false [
    ⟨(some 13), .move (.tmp 7), none, []⟩,
    ⟨(some 14), .move (.tmp 8), none, []⟩,
    ⟨(some 15), .bin .other .lss (.tmp 13) (.tmp 14), none, []⟩]) k33x7) k33x6
def k33x4 : AC := .mask 195
def k33x16 : AC := .ret
def k33x15 : AC := .seq (.mask 48) k33x16
def k33x3 : AC := .seq (.ops true [
    ⟨(some 31), .move (.tmp 7), none, []⟩,
    ⟨(some 32), .move (.tmp 7), none, []⟩,
    ⟨(some 33), .move (.tmp 6), none, []⟩,
    ⟨(some 34), .bin .other .lss (.tmp 32) (.tmp 33), none, []⟩,
    ⟨(some 35), .move (.tmp 34), none, []⟩,
    ⟨(some 36), .move (.tmp 0), (some (35, true)), []⟩,
    ⟨(some 37), .move (.tmp 7), (some (35, true)), []⟩,
    ⟨(some 38), .indexAddr 1 (.tmp 36) (.tmp 37), (some (35, true)), []⟩,
    ⟨(some 39), .load (.cell (.int .i64)) (.tmp 38), (some (35, true)), []⟩,
    ⟨(some 40), .move (.tmp 1), (some (35, true)), []⟩,
    ⟨(some 41), .bin .other .eql (.tmp 39) (.tmp 40), (some (35, true)), []⟩,
    ⟨(some 42), .move (.tmp 41), (some (35, true)), []⟩,
    ⟨(some 43), .move (.tmp 0), (some (42, false)), []⟩,
    ⟨(some 44), .move (.tmp 7), (some (42, false)), []⟩,
    ⟨(some 45), .indexAddr 1 (.tmp 43) (.tmp 44), (some (42, false)), []⟩,
    ⟨(some 46), .load (.cell (.int .i64)) (.tmp 45), (some (42, false)), []⟩,
    ⟨(some 47), .call 44 [(.tmp 46)] [(.cell .bool)] (.bool false), (some (42, false)), []⟩,
    ⟨(some 48), .move (.tmp 47), (some (42, false)), []⟩,
    ⟨(some 49), .move (.tmp 1), (some (48, true)), []⟩,
    ⟨(some 50), .call 44 [(.tmp 49)] [(.cell .bool)] (.bool false), (some (48, true)), []⟩,
    ⟨(some 51), .pick (.tmp 48) (.tmp 50) (.c (.bool false)), (some (42, false)), []⟩,
    ⟨(some 52), .pick (.tmp 42) (.c (.bool true)) (.tmp 51), (some (35, true)), []⟩,
    ⟨(some 53), .pick (.tmp 35) (.tmp 52) (.c (.bool false)), none, []⟩,
    ⟨(some 4), .move (.tmp 31), none, []⟩,
    ⟨(some 5), .move (.tmp 53), none, []⟩]) k33x15
def k33x2 : AC := .seq (.seq (.block 0 (.loop 451 195 k33x5)) k33x4) k33x3
def k33x1 : AC := .seq (.ops false [
    ⟨(some 12), .move (.tmp 6), none, []⟩,
    ⟨(some 7), .move (.c (.int .i64 0)), none, []⟩,
    ⟨(some 8), .move (.tmp 12), none, []⟩]) k33x2
def k33x0 : AC := .seq (.ops false [
    ⟨(some 10), .move (.tmp 0), none, []⟩,
    ⟨(some 11), .lenSl (.tmp 10), none, []⟩,
    ⟨(some 6), .move (.tmp 11), none, []⟩]) k33x1
/-- slices.BinarySearch[[]int,int] -/
def c33 : AFn := ⟨54, [.tmp 4, .tmp 5],
  .seq (.ops false [
    ⟨(some 4), .move (.c (.int .i64 0)), none, []⟩,
    ⟨(some 5), .move (.c (.bool false)), none, []⟩]) k33x0⟩
def S33xe0 (s0 : SA) (n0 : Nat) (i1 : Int) (i6 : Int) (i7 : Int) (h : Heap) : St := ⟨(.g [] true (.sl s0 n0) :: (.g [] true (.int .i64 i1) :: (rep 4 (.g [] true (.int .i64 i6) :: (.g [] true (.int .i64 i7) :: (rep 46 [])))))), h⟩
noncomputable def Q33x5 (M : Mk) (C : Cal) : Kont (AV × Heap) := (blockQ 0 (seqQ (evalE M C k33x4) (seqQ (evalE M C k33x3) (endQ [.tmp 4, .tmp 5]))))
noncomputable def L33x5 (s0 : SA) (n0 : Nat) (i1 : Int) (i6 : Int) (i7 : Int) (i8 : Int) (h : Heap) (Q : Kont R) : Option R := loopE (evalE M C k33x5) 451 195 ⟨(.g [] true (.sl s0 n0) :: (.g [] true (.int .i64 i1) :: (rep 4 (.g [] true (.int .i64 i6) :: (.g [] true (.int .i64 i7) :: (.g [] true (.int .i64 i8) :: (rep 45 []))))))), h⟩ Q
noncomputable def J33x14 (M : Mk) (C : Cal) (s0 : SA) (n0 : Nat) (i1 : Int) (i6 : Int) (i7 : Int) (i8 : Int) (h : Heap) (Q : Kont R) : Option R := M R (blockQ 1 (seqQ (evalE M C k33x10) (roundQ M C k33x5 451 195 Q))) (.g [] true (.sl s0 n0) :: (.g [] true (.int .i64 i1) :: (rep 4 (.g [] true (.int .i64 i6) :: (.g [] true (.int .i64 i7) :: (.g [] true (.int .i64 i8) :: (rep 45 []))))))) h
theorem r33 (s0 : SA) (n0 : Nat) (i1 : Int) (h : Heap) : runE M C c33 [(.sl s0 n0), (.int .i64 i1)] h = (
  L33x5 M C s0 n0 i1 ((n0 : Nat) : Int) 0 ((n0 : Nat) : Int) h (Q33x5 M C)
  ) := by kernel_rfl
theorem cf33 : cFn Try.prog 33 = some c33 := by kernel_rfl
theorem e33 (s0 : SA) (n0 : Nat) (i1 : Int) (h : Heap) : E 33 [(.sl s0 n0), (.int .i64 i1)] h = (
  L33x5 mk0 E s0 n0 i1 ((n0 : Nat) : Int) 0 ((n0 : Nat) : Int) h (Q33x5 mk0 E)
  ) := (EV_eq (P := Try.prog) (T := T0) rfl cf33 [(.sl s0 n0), (.int .i64 i1)] h).trans (r33 mk0 E s0 n0 i1 h)
theorem L33x5xaux (s0 : SA) (n0 : Nat) (i1 : Int) (i6 : Int) (i7 : Int) (i8 : Int) (h : Heap) (Q : Kont R) : (restrF 451 ⟨(.g [] true (.sl s0 n0) :: (.g [] true (.int .i64 i1) :: (rep 4 (.g [] true (.int .i64 i6) :: (.g [] true (.int .i64 i7) :: (.g [] true (.int .i64 i8) :: (rep 45 []))))))), h⟩ fun σ => evalE M C k33x5 σ (roundQ M C k33x5 451 195 Q)) = (
  letK ((decide ((i7 : Int) < i8)) : Bool) fun b15 =>
  if b15 = true then
    (
    letK ((IntKind.wrap .i64 (i7 + i8)) : Int) fun i18 =>
    letK ((IntKind.wrap .u64 i18) : Int) fun i19 =>
    letK ((Int.fdiv i19 (2 ^ 1)) : Int) fun i20 =>
    letK ((IntKind.wrap .i64 i20) : Int) fun i21 =>
    chk (true = true → (0 : Int) ≤ i21 ∧ (i21 : Int) < ((n0 : Nat) : Int)) <|
    atP (adP s0) true fun a24 =>
    gI .i64 (ld1 h (Ad.add a24 (Int.toNat i21 * 1))) true fun i25 =>
    (C 43 [(.int .i64 i25), (.int .i64 i1)] h).bind fun r27 =>
    gB (some r27.1) true fun b27 =>
    if b27 = true then
      (
      letK ((IntKind.wrap .i64 (i21 + 1)) : Int) fun i29 =>
      J33x14 M C s0 n0 i1 i6 i29 i8 r27.2 Q
      )
    else
      (
      J33x14 M C s0 n0 i1 i6 i7 i21 r27.2 Q
      )
    )
  else
    (
    Q (.exit 0) (S33xe0 s0 n0 i1 i6 i7 h)
    )
  ) := by kernel_rfl
theorem L33x5xeq (s0 : SA) (n0 : Nat) (i1 : Int) (i6 : Int) (i7 : Int) (i8 : Int) (h : Heap) (Q : Kont R) : L33x5 mk0 C s0 n0 i1 i6 i7 i8 h Q = (
  letK ((decide ((i7 : Int) < i8)) : Bool) fun b15 =>
  if b15 = true then
    (
    letK ((IntKind.wrap .i64 (i7 + i8)) : Int) fun i18 =>
    letK ((IntKind.wrap .u64 i18) : Int) fun i19 =>
    letK ((Int.fdiv i19 (2 ^ 1)) : Int) fun i20 =>
    letK ((IntKind.wrap .i64 i20) : Int) fun i21 =>
    chk (true = true → (0 : Int) ≤ i21 ∧ (i21 : Int) < ((n0 : Nat) : Int)) <|
    atP (adP s0) true fun a24 =>
    gI .i64 (ld1 h (Ad.add a24 (Int.toNat i21 * 1))) true fun i25 =>
    (C 43 [(.int .i64 i25), (.int .i64 i1)] h).bind fun r27 =>
    gB (some r27.1) true fun b27 =>
    if b27 = true then
      (
      letK ((IntKind.wrap .i64 (i21 + 1)) : Int) fun i29 =>
      J33x14 mk0 C s0 n0 i1 i6 i29 i8 r27.2 Q
      )
    else
      (
      J33x14 mk0 C s0 n0 i1 i6 i7 i21 r27.2 Q
      )
    )
  else
    (
    Q (.exit 0) (S33xe0 s0 n0 i1 i6 i7 h)
    )
  ) := loop_eqn C k33x5 451 195 (.g [] true (.sl s0 n0) :: (.g [] true (.int .i64 i1) :: (rep 4 (.g [] true (.int .i64 i6) :: (.g [] true (.int .i64 i7) :: (.g [] true (.int .i64 i8) :: (rep 45 []))))))) h Q (by kernel_rfl) (L33x5xaux mk0 C s0 n0 i1 i6 i7 i8 h Q)
theorem J33x14xaux (M : Mk) (C : Cal) (s0 : SA) (n0 : Nat) (i1 : Int) (i6 : Int) (i7 : Int) (i8 : Int) (h : Heap) (Q : Kont R) : (forceK tk (.g [] true (.sl s0 n0) :: (.g [] true (.int .i64 i1) :: (rep 4 (.g [] true (.int .i64 i6) :: (.g [] true (.int .i64 i7) :: (.g [] true (.int .i64 i8) :: (rep 45 []))))))) fun e => (blockQ 1 (seqQ (evalE M C k33x10) (roundQ M C k33x5 451 195 Q))) .normal ⟨e, h⟩) = (
  L33x5 M C s0 n0 i1 i6 i7 i8 h Q
  ) := by kernel_rfl
theorem J33x14xeq (C : Cal) (s0 : SA) (n0 : Nat) (i1 : Int) (i6 : Int) (i7 : Int) (i8 : Int) (h : Heap) (Q : Kont R) : J33x14 mk0 C s0 n0 i1 i6 i7 i8 h Q = (
  L33x5 mk0 C s0 n0 i1 i6 i7 i8 h Q
  ) := join_eqn (blockQ 1 (seqQ (evalE mk0 C k33x10) (roundQ mk0 C k33x5 451 195 Q))) (.g [] true (.sl s0 n0) :: (.g [] true (.int .i64 i1) :: (rep 4 (.g [] true (.int .i64 i6) :: (.g [] true (.int .i64 i7) :: (.g [] true (.int .i64 i8) :: (rep 45 []))))))) h (J33x14xaux mk0 C s0 n0 i1 i6 i7 i8 h Q)
theorem X33x5xe0 (M : Mk) (C : Cal) (s0 : SA) (n0 : Nat) (i1 : Int) (i6 : Int) (i7 : Int) (h : Heap) : Q33x5 M C (.exit 0) (S33xe0 s0 n0 i1 i6 i7 h) = (
  letK ((decide ((i7 : Int) < i6)) : Bool) fun b34 =>
  chk (b34 = true → (0 : Int) ≤ i7 ∧ (i7 : Int) < ((n0 : Nat) : Int)) <|
  atP (adP s0) b34 fun a38 =>
  atP (some (Ad.add a38 (Int.toNat i7 * 1))) b34 fun a39 =>
  gI .i64 (ld1 h a39) b34 fun i39 =>
  letK ((decide ((i39 : Int) = i1)) : Bool) fun b41 =>
  chk ((andB b34 (!b41)) = true → (0 : Int) ≤ i7 ∧ (i7 : Int) < ((n0 : Nat) : Int)) <|
  atP (adP s0) (andB b34 (!b41)) fun a45 =>
  atP (some (Ad.add a45 (Int.toNat i7 * 1))) (andB b34 (!b41)) fun a46 =>
  gI .i64 (ld1 h a46) (andB b34 (!b41)) fun i46 =>
  (callO (andB b34 (!b41)) (C 44 [(.int .i64 i46)] h) (.bool false) h).bind fun r47 =>
  gB (some r47.1) (andB b34 (!b41)) fun b47 =>
  (callO (andB (andB b34 (!b41)) b47) (C 44 [(.int .i64 i1)] r47.2) (.bool false) r47.2).bind fun r50 =>
  gB (some r50.1) (andB (andB b34 (!b41)) b47) fun b50 =>
  letK ((if b47 = true then b50 else false) : Bool) fun b51 =>
  letK ((if b41 = true then true else b51) : Bool) fun b52 =>
  letK ((if b34 = true then b52 else false) : Bool) fun b53 =>
  some (.tup [(.int .i64 i7), (.bool b53)], r50.2)
  ) := by kernel_rfl
def k17x7 : AC := .ret
def k17x6 : AC := .seq (.mask 4) k17x7
def k17x5 : AC := .mask 41
def k17x4 : AC := .seq (.cond (.tmp 44)
   (.seq (.ops false [
      ⟨(some 2), .move (.c (.bool false)), none, []⟩]) k17x6)
   (.skip)) k17x5
def k17x16 : AC := .exit 0
def k17x15 : AC := .mask 1970324836974721
def k17x27 : AC := .exit 2
def k17x26 : AC := .mask 1970324836985473
def k17x25 : AC := .seq (.cond (.tmp 72)
   (.skip)
   (.seq (.mask 1970324836974721) k17x27)) k17x26
def k17x34 : AC := .exit 3
def k17x33 : AC := .mask 1970324837001857
def k17x32 : AC := .seq (.cond (.tmp 88)
   (.seq (.mask 1970324836985473) k17x34)
   (.skip)) k17x33
def k17x39 : AC := .ret
def k17x38 : AC := .seq (.mask 4) k17x39
def k17x37 : AC := .mask 1970324836985473
def k17x36 : AC := .seq (.cond (.tmp 97)
   (.seq (.ops false [
      ⟨(some 2), .move (.c (.bool false)), none, []⟩]) k17x38)
   (.skip)) k17x37
def k17x35 : AC := .seq (.ops false [
    ⟨(some 96), .move (.tmp 16), none, []⟩,
    ⟨(some 97), .un .not (.tmp 96), none, []⟩]) k17x36
def k17x31 : AC := .seq (.ops false [
    ⟨(some 90), .move (.tmp 7), none, []⟩,
    ⟨(some 91), .move (.tmp 14), none, []⟩,
    ⟨(some 92), .bin .other .quo (.tmp 91) (.c (.int .i64 2)), none, []⟩,
    ⟨(some 93), .call 33 [(.tmp 90), (.tmp 92)] [(.cell (.int .i64)), (.cell .bool)] .opq, none, []⟩,
    ⟨(some 89), .move (.tmp 93), none, []⟩,
    ⟨(some 94), .extract (.tmp 89) 0, none, []⟩,
    ⟨(some 95), .extract (.tmp 89) 1, none, []⟩,
    ⟨(some 15), .move (.tmp 94), none, []⟩,
    ⟨(some 16), .move (.tmp 95), none, []⟩]) k17x35
def k17x30 : AC := .seq (.seq (.ops true [
    ⟨(some 82), .move (.tmp 14), none, []⟩,
    ⟨(some 83), .bin .other .and (.tmp 82) (.c (.int .i64 1)), none, []⟩,
    ⟨(some 84), .bin .other .eql (.tmp 83) (.c (.int .i64 1)), none, []⟩,
    ⟨(some 85), .move (.tmp 84), none, []⟩,
    ⟨(some 86), .move (.tmp 14), (some (85, false)), []⟩,
    ⟨(some 87), .bin .other .eql (.tmp 86) (.c (.int .i64 0)), (some (85, false)), []⟩,
    ⟨(some 88), .pick (.tmp 85) (.c (.bool true)) (.tmp 87), none, []⟩]) k17x32) k17x31
def k17x29 : AC := .join 1970324836985473
def k17x28 : AC := .ops false [
    ⟨(some 73), .move (.tmp 13), none, []⟩,
    ⟨(some 74), .bin .other .add (.tmp 73) (.c (.int .i64 1)), none, []⟩,
    ⟨(some 13), .move (.tmp 74), none, []⟩]
def k17x24 : AC := .seq (.seq (.block 3 (.seq (.ops false [
     ⟨(some 75), .move (.tmp 0), none, []⟩,
     ⟨(some 76), .nilCheck (.tmp 75), none, []⟩,
     ⟨(some 77), .fieldAddr 0 (.tmp 76), none, []⟩,
     ⟨(some 78), .load (.cell .sl) (.tmp 77), none, []⟩,
     ⟨(some 79), .move (.tmp 13), none, []⟩,
     ⟨(some 80), .indexAddr 1 (.tmp 78) (.tmp 79), none, []⟩,
     ⟨(some 81), .load (.cell (.int .i64)) (.tmp 80), none, []⟩,
     ⟨(some 14), .move (.tmp 81), none, []⟩]) k17x30)) k17x29) k17x28
def k17x23 : AC := .seq (.seq (.ops false [
    ⟨(some 68), .move (.tmp 13), none, []⟩,
    ⟨(some 69), .move (.tmp 9), none, []⟩,
    ⟨(some 70), .move (.tmp 11), none, []⟩,
    ⟨(some 71), .bin .other .add (.tmp 69) (.tmp 70), none, []⟩,
    ⟨(some 72), .bin .other .leq (.tmp 68) (.tmp 71), none, []⟩]) k17x25) k17x24
def k17x22 : AC := .mask 1970324836974721
def k17x21 : AC := .seq (.block 2 (.loop 1970324836985473 1970324836974721 k17x23)) k17x22
def k17x20 : AC := .seq (.ops false [
    ⟨(some 66), .move (.tmp 9), none, []⟩,
    ⟨(some 67), .bin .other .add (.tmp 66) (.c (.int .i64 1)), none, []⟩,
    ⟨(some 13), .move (.tmp 67), none, []⟩]) k17x21
def k17x19 : AC := .seq (.ops false [
    ⟨(some 55), .move (.tmp 0), none, []⟩,
    ⟨(some 56), .nilCheck (.tmp 55), none, []⟩,
    ⟨(some 57), .fieldAddr 0 (.tmp 56), none, []⟩,
    ⟨(some 58), .load (.cell .sl) (.tmp 57), none, []⟩,
    ⟨(some 59), .move (.tmp 9), none, []⟩,
    ⟨(some 60), .indexAddr 1 (.tmp 58) (.tmp 59), none, []⟩,
    ⟨(some 61), .load (.cell (.int .i64)) (.tmp 60), none, []⟩,
    ⟨(some 62), .call 31 [(.tmp 61)] [(.cell (.int .i64)), (.cell (.int .i64)), (.cell .bool)] .opq, none, []⟩,
    ⟨(some 54), .move (.tmp 62), none, []⟩,
    ⟨(some 63), .extract (.tmp 54) 0, none, []⟩,
    ⟨(some 64), .extract (.tmp 54) 1, none, []⟩,
    ⟨(some 65), .extract (.tmp 54) 2, none, []⟩,
    ⟨(some 10), .move (.tmp 63), none, []⟩,
    ⟨(some 11), .move (.tmp 64), none, []⟩,
    ⟨(some 12), .move (.tmp 65), none, []⟩]) k17x20
def k17x18 : AC := .mask 1970324836974721
def k17x17 : AC := .ops false [
    ⟨(some 98), .bin .other .add (.tmp 50) (.c (.int .i64 1)), none, []⟩,
    ⟨(some 50), .move (.tmp 98), none, []⟩]
def k17x14 : AC := .seq (.seq (.block 1 (.seq (.ops false [
     ⟨(some 52), .indexAddr 1 (.tmp 48) (.tmp 50), none, []⟩,
     ⟨(some 53), .load (.cell (.int .i64)) (.tmp 52), none, []⟩,
     ⟨(some 9), .move (.tmp 53), none, []⟩]) k17x19)) k17x18) k17x17
def k17x13 : AC := .seq (.seq (.cond (.tmp 51)
   (.skip)
   (.seq (.mask 0) k17x16)) k17x15) k17x14
def k17x12 : AC := .seq (.ops false [
    ⟨(some 51), .bin .other .lss (.tmp 50) (.tmp 49), none, []⟩]) k17x13
def k17x11 : AC := .mask 0
def k17x10 : AC := .seq (.block 0 (.loop 1970324836974721 0 k17x12)) k17x11
def k17x42 : AC := .ret
def k17x41 : AC := .seq (.mask 4) k17x42
def k17x9 : AC := .seq (.ops false [
    ⟨(some 2), .move (.c (.bool true)), none, []⟩]) k17x41
def k17x8 : AC := .seq (.seq (.ops false [
    ⟨(some 48), .move (.tmp 7), none, []⟩,
    ⟨(some 49), .lenSl (.tmp 48), none, []⟩,
    ⟨(some 50), .move (.c (.int .i64 0)), none, []⟩]) k17x10) k17x9
def k17x3 : AC := .seq (.ops false [
    ⟨(some 45), .move (.tmp 3), none, []⟩,
    ⟨(some 46), .move (.tmp 5), none, []⟩,
    ⟨(some 47), .append [(.int .i64 0)] 1 8 (.tmp 45) (.tmp 46), none, []⟩,
    ⟨(some 7), .move (.tmp 47), none, []⟩]) k17x8
def k17x2 : AC := .seq (.seq (.ops true [
    ⟨(some 39), .move (.tmp 4), none, []⟩,
    ⟨(some 40), .un .not (.tmp 39), none, []⟩,
    ⟨(some 41), .move (.tmp 40), none, []⟩,
    ⟨(some 42), .move (.tmp 6), (some (41, false)), []⟩,
    ⟨(some 43), .un .not (.tmp 42), (some (41, false)), []⟩,
    ⟨(some 44), .pick (.tmp 41) (.c (.bool true)) (.tmp 43), none, []⟩]) k17x4) k17x3
def k17x1 : AC := .seq (.ops false [
    ⟨(some 27), .move (.tmp 0), none, []⟩,
    ⟨(some 28), .move (.tmp 0), none, []⟩,
    ⟨(some 29), .nilCheck (.tmp 28), none, []⟩,
    ⟨(some 30), .fieldAddr 5 (.tmp 29), none, []⟩,
    ⟨(some 31), .load (.cell (.int .i64)) (.tmp 30), none, []⟩,
    ⟨(some 32), .move (.tmp 0), none, []⟩,
    ⟨(some 33), .nilCheck (.tmp 32), none, []⟩,
    ⟨(some 34), .fieldAddr 6 (.tmp 33), none, []⟩,
    ⟨(some 35), .load (.cell (.int .i64)) (.tmp 34), none, []⟩,
    ⟨(some 36), .call 32 [(.tmp 27), (.tmp 31), (.tmp 35)] [(.cell .sl), (.cell .bool)] .opq, none, []⟩,
    ⟨(some 26), .move (.tmp 36), none, []⟩,
    ⟨(some 37), .extract (.tmp 26) 0, none, []⟩,
    ⟨(some 38), .extract (.tmp 26) 1, none, []⟩,
    ⟨(some 5), .move (.tmp 37), none, []⟩,
    ⟨(some 6), .move (.tmp 38), none, []⟩]) k17x2
def k17x0 : AC := .seq (.ops false [
    ⟨(some 18), .move (.tmp 0), none, []⟩,
    ⟨(some 19), .move (.tmp 0), none, []⟩,
    ⟨(some 20), .nilCheck (.tmp 19), none, []⟩,
    ⟨(some 21), .fieldAddr 3 (.tmp 20), none, []⟩,
    ⟨(some 22), .load (.cell (.int .i64)) (.tmp 21), none, []⟩,
    ⟨(some 23), .call 32 [(.tmp 18), (.c (.int .i64 1)), (.tmp 22)] [(.cell .sl), (.cell .bool)] .opq, none, []⟩,
    ⟨(some 17), .move (.tmp 23), none, []⟩,
    ⟨(some 24), .extract (.tmp 17) 0, none, []⟩,
    ⟨(some 25), .extract (.tmp 17) 1, none, []⟩,
    ⟨(some 3), .move (.tmp 24), none, []⟩,
    ⟨(some 4), .move (.tmp 25), none, []⟩]) k17x1
/-- (*provenance/heap.Heap).Check -/
def c17 : AFn := ⟨99, [.tmp 2],
  .seq (.ops false [
    ⟨(some 2), .move (.c (.bool false)), none, []⟩]) k17x0⟩
def S17xe0 (h : Heap) : St := ⟨(rep 99 []), h⟩
def S17xr (b2 : Bool) (h : Heap) : St := ⟨(.any :: .any :: (.g [] true (.bool b2) :: (rep 96 []))), h⟩
def S17xe2 (p0 : Option Ad) (s7 : SA) (n7 : Nat) (s48 : SA) (n48 : Nat) (i49 : Int) (i50 : Int) (h : Heap) : St := ⟨(.g [] true (.ptr p0) :: (rep 6 (.g [] true (.sl s7 n7) :: (rep 40 (.g [] true (.sl s48 n48) :: (.g [] true (.int .i64 i49) :: (.g [] true (.int .i64 i50) :: (rep 48 [])))))))), h⟩
noncomputable def Q17x12 (M : Mk) (C : Cal) : Kont (AV × Heap) := (blockQ 0 (seqQ (evalE M C k17x11) (seqQ (evalE M C k17x9) (endQ [.tmp 2]))))
noncomputable def L17x12 (p0 : Option Ad) (s7 : SA) (n7 : Nat) (s48 : SA) (n48 : Nat) (i49 : Int) (i50 : Int) (h : Heap) (Q : Kont R) : Option R := loopE (evalE M C k17x12) 1970324836974721 0 ⟨(.g [] true (.ptr p0) :: (rep 6 (.g [] true (.sl s7 n7) :: (rep 40 (.g [] true (.sl s48 n48) :: (.g [] true (.int .i64 i49) :: (.g [] true (.int .i64 i50) :: (rep 48 [])))))))), h⟩ Q
noncomputable def Q17x23 (M : Mk) (C : Cal) (Q : Kont R) : Kont R := (blockQ 2 (seqQ (evalE M C k17x22) (blockQ 1 (seqQ (evalE M C k17x18) (seqQ (evalE M C k17x17) (roundQ M C k17x12 1970324836974721 0 Q))))))
noncomputable def L17x23 (p0 : Option Ad) (s7 : SA) (n7 : Nat) (i9 : Int) (i11 : Int) (i13 : Int) (s48 : SA) (n48 : Nat) (i49 : Int) (i50 : Int) (h : Heap) (Q : Kont R) : Option R := loopE (evalE M C k17x23) 1970324836985473 1970324836974721 ⟨(.g [] true (.ptr p0) :: (rep 6 (.g [] true (.sl s7 n7) :: (.any :: (.g [] true (.int .i64 i9) :: (.any :: (.g [] true (.int .i64 i11) :: (.any :: (.g [] true (.int .i64 i13) :: (rep 34 (.g [] true (.sl s48 n48) :: (.g [] true (.int .i64 i49) :: (.g [] true (.int .i64 i50) :: (rep 48 [])))))))))))))), h⟩ Q
noncomputable def J17x40 (M : Mk) (C : Cal) (p0 : Option Ad) (s7 : SA) (n7 : Nat) (i9 : Int) (i11 : Int) (i13 : Int) (s48 : SA) (n48 : Nat) (i49 : Int) (i50 : Int) (h : Heap) (Q : Kont R) : Option R := M R (seqQ (evalE M C k17x28) (roundQ M C k17x23 1970324836985473 1970324836974721 Q)) (.g [] true (.ptr p0) :: (rep 6 (.g [] true (.sl s7 n7) :: (.any :: (.g [] true (.int .i64 i9) :: (.any :: (.g [] true (.int .i64 i11) :: (.any :: (.g [] true (.int .i64 i13) :: (rep 34 (.g [] true (.sl s48 n48) :: (.g [] true (.int .i64 i49) :: (.g [] true (.int .i64 i50) :: (rep 48 [])))))))))))))) h
theorem r17 (p0 : Option Ad) (h : Heap) : runE M C c17 [(.ptr p0)] h = (
  atP p0 true fun a20 =>
  gI .i64 (ld1 h (Ad.add a20 3)) true fun i22 =>
  (C 32 [(.ptr p0), (.int .i64 1), (.int .i64 i22)] h).bind fun r23 =>
  gT 2 r23.1 true fun u23 =>
  gL (some (List.getD u23 0 .opq)) true fun s23x0 n23x0 =>
  gB (some (List.getD u23 1 .opq)) true fun b23x1 =>
  atP p0 true fun a29 =>
  gI .i64 (ld1 r23.2 (Ad.add a29 5)) true fun i31 =>
  atP p0 true fun a33 =>
  gI .i64 (ld1 r23.2 (Ad.add a33 6)) true fun i35 =>
  (C 32 [(.ptr p0), (.int .i64 i31), (.int .i64 i35)] r23.2).bind fun r36 =>
  gT 2 r36.1 true fun u36 =>
  gL (some (List.getD u36 0 .opq)) true fun s36x0 n36x0 =>
  gB (some (List.getD u36 1 .opq)) true fun b36x1 =>
  letK ((if (!b23x1) = true then true else (!b36x1)) : Bool) fun b44 =>
  if b44 = true then
    (
    some ((.bool false), r36.2)
    )
  else
    (
    (ldSl r36.2 s36x0 (n36x0 * 1)).bind fun y47 =>
    (apnd r36.2 (.sl s23x0 n23x0) 1 8 y47 n36x0).bind fun r47 =>
    gL (some r47.1) true fun s47 n47 =>
    L17x12 M C p0 s47 n47 s47 n47 ((n47 : Nat) : Int) 0 r47.2 (Q17x12 M C)
    )
  ) := by kernel_rfl
theorem cf17 : cFn Try.prog 17 = some c17 := by kernel_rfl
theorem e17 (p0 : Option Ad) (h : Heap) : E 17 [(.ptr p0)] h = (
  atP p0 true fun a20 =>
  gI .i64 (ld1 h (Ad.add a20 3)) true fun i22 =>
  (E 32 [(.ptr p0), (.int .i64 1), (.int .i64 i22)] h).bind fun r23 =>
  gT 2 r23.1 true fun u23 =>
  gL (some (List.getD u23 0 .opq)) true fun s23x0 n23x0 =>
  gB (some (List.getD u23 1 .opq)) true fun b23x1 =>
  atP p0 true fun a29 =>
  gI .i64 (ld1 r23.2 (Ad.add a29 5)) true fun i31 =>
  atP p0 true fun a33 =>
  gI .i64 (ld1 r23.2 (Ad.add a33 6)) true fun i35 =>
  (E 32 [(.ptr p0), (.int .i64 i31), (.int .i64 i35)] r23.2).bind fun r36 =>
  gT 2 r36.1 true fun u36 =>
  gL (some (List.getD u36 0 .opq)) true fun s36x0 n36x0 =>
  gB (some (List.getD u36 1 .opq)) true fun b36x1 =>
  letK ((if (!b23x1) = true then true else (!b36x1)) : Bool) fun b44 =>
  if b44 = true then
    (
    some ((.bool false), r36.2)
    )
  else
    (
    (ldSl r36.2 s36x0 (n36x0 * 1)).bind fun y47 =>
    (apnd r36.2 (.sl s23x0 n23x0) 1 8 y47 n36x0).bind fun r47 =>
    gL (some r47.1) true fun s47 n47 =>
    L17x12 mk0 E p0 s47 n47 s47 n47 ((n47 : Nat) : Int) 0 r47.2 (Q17x12 mk0 E)
    )
  ) := (EV_eq (P := Try.prog) (T := T0) rfl cf17 [(.ptr p0)] h).trans (r17 mk0 E p0 h)
theorem L17x12xaux (p0 : Option Ad) (s7 : SA) (n7 : Nat) (s48 : SA) (n48 : Nat) (i49 : Int) (i50 : Int) (h : Heap) (Q : Kont R) : (restrF 1970324836974721 ⟨(.g [] true (.ptr p0) :: (rep 6 (.g [] true (.sl s7 n7) :: (rep 40 (.g [] true (.sl s48 n48) :: (.g [] true (.int .i64 i49) :: (.g [] true (.int .i64 i50) :: (rep 48 [])))))))), h⟩ fun σ => evalE M C k17x12 σ (roundQ M C k17x12 1970324836974721 0 Q)) = (
  letK ((decide ((i50 : Int) < i49)) : Bool) fun b51 =>
  if b51 = true then
    (
    chk (true = true → (0 : Int) ≤ i50 ∧ (i50 : Int) < ((n48 : Nat) : Int)) <|
    atP (adP s48) true fun a52 =>
    gI .i64 (ld1 h (Ad.add a52 (Int.toNat i50 * 1))) true fun i53 =>
    atP p0 true fun a56 =>
    gL (ld1 h (Ad.add a56 0)) true fun s58 n58 =>
    chk (true = true → (0 : Int) ≤ i53 ∧ (i53 : Int) < ((n58 : Nat) : Int)) <|
    atP (adP s58) true fun a60 =>
    gI .i64 (ld1 h (Ad.add a60 (Int.toNat i53 * 1))) true fun i61 =>
    (C 31 [(.int .i64 i61)] h).bind fun r62 =>
    gT 3 r62.1 true fun u62 =>
    gI .i64 (some (List.getD u62 0 .opq)) true fun i62x0 =>
    gI .i64 (some (List.getD u62 1 .opq)) true fun i62x1 =>
    gB (some (List.getD u62 2 .opq)) true fun b62x2 =>
    letK ((IntKind.wrap .i64 (i53 + 1)) : Int) fun i67 =>
    L17x23 M C p0 s7 n7 i53 i62x1 i67 s48 n48 i49 i50 r62.2 (Q17x23 M C Q)
    )
  else
    (
    Q (.exit 0) (S17xe0 h)
    )
  ) := by kernel_rfl
theorem L17x12xeq (p0 : Option Ad) (s7 : SA) (n7 : Nat) (s48 : SA) (n48 : Nat) (i49 : Int) (i50 : Int) (h : Heap) (Q : Kont R) : L17x12 mk0 C p0 s7 n7 s48 n48 i49 i50 h Q = (
  letK ((decide ((i50 : Int) < i49)) : Bool) fun b51 =>
  if b51 = true then
    (
    chk (true = true → (0 : Int) ≤ i50 ∧ (i50 : Int) < ((n48 : Nat) : Int)) <|
    atP (adP s48) true fun a52 =>
    gI .i64 (ld1 h (Ad.add a52 (Int.toNat i50 * 1))) true fun i53 =>
    atP p0 true fun a56 =>
    gL (ld1 h (Ad.add a56 0)) true fun s58 n58 =>
    chk (true = true → (0 : Int) ≤ i53 ∧ (i53 : Int) < ((n58 : Nat) : Int)) <|
    atP (adP s58) true fun a60 =>
    gI .i64 (ld1 h (Ad.add a60 (Int.toNat i53 * 1))) true fun i61 =>
    (C 31 [(.int .i64 i61)] h).bind fun r62 =>
    gT 3 r62.1 true fun u62 =>
    gI .i64 (some (List.getD u62 0 .opq)) true fun i62x0 =>
    gI .i64 (some (List.getD u62 1 .opq)) true fun i62x1 =>
    gB (some (List.getD u62 2 .opq)) true fun b62x2 =>
    letK ((IntKind.wrap .i64 (i53 + 1)) : Int) fun i67 =>
    L17x23 mk0 C p0 s7 n7 i53 i62x1 i67 s48 n48 i49 i50 r62.2 (Q17x23 mk0 C Q)
    )
  else
    (
    Q (.exit 0) (S17xe0 h)
    )
  ) := loop_eqn C k17x12 1970324836974721 0 (.g [] true (.ptr p0) :: (rep 6 (.g [] true (.sl s7 n7) :: (rep 40 (.g [] true (.sl s48 n48) :: (.g [] true (.int .i64 i49) :: (.g [] true (.int .i64 i50) :: (rep 48 [])))))))) h Q (by kernel_rfl) (L17x12xaux mk0 C p0 s7 n7 s48 n48 i49 i50 h Q)
theorem L17x23xaux (p0 : Option Ad) (s7 : SA) (n7 : Nat) (i9 : Int) (i11 : Int) (i13 : Int) (s48 : SA) (n48 : Nat) (i49 : Int) (i50 : Int) (h : Heap) (Q : Kont R) : (restrF 1970324836985473 ⟨(.g [] true (.ptr p0) :: (rep 6 (.g [] true (.sl s7 n7) :: (.any :: (.g [] true (.int .i64 i9) :: (.any :: (.g [] true (.int .i64 i11) :: (.any :: (.g [] true (.int .i64 i13) :: (rep 34 (.g [] true (.sl s48 n48) :: (.g [] true (.int .i64 i49) :: (.g [] true (.int .i64 i50) :: (rep 48 [])))))))))))))), h⟩ fun σ => evalE M C k17x23 σ (roundQ M C k17x23 1970324836985473 1970324836974721 Q)) = (
  letK ((IntKind.wrap .i64 (i9 + i11)) : Int) fun i71 =>
  letK ((decide ((i13 : Int) ≤ i71)) : Bool) fun b72 =>
  if b72 = true then
    (
    atP p0 true fun a76 =>
    gL (ld1 h (Ad.add a76 0)) true fun s78 n78 =>
    chk (true = true → (0 : Int) ≤ i13 ∧ (i13 : Int) < ((n78 : Nat) : Int)) <|
    atP (adP s78) true fun a80 =>
    gI .i64 (ld1 h (Ad.add a80 (Int.toNat i13 * 1))) true fun i81 =>
    letK ((Go.bits .and .i64 i81 1) : Int) fun i83 =>
    letK ((decide ((i83 : Int) = 1)) : Bool) fun b84 =>
    letK ((decide ((i81 : Int) = 0)) : Bool) fun b87 =>
    letK ((if b84 = true then true else b87) : Bool) fun b88 =>
    if b88 = true then
      (
      J17x40 M C p0 s7 n7 i9 i11 i13 s48 n48 i49 i50 h Q
      )
    else
      (
      letK ((IntKind.wrap .i64 (Int.tdiv i81 2)) : Int) fun i92 =>
      (C 33 [(.sl s7 n7), (.int .i64 i92)] h).bind fun r93 =>
      gT 2 r93.1 true fun u93 =>
      gI .i64 (some (List.getD u93 0 .opq)) true fun i93x0 =>
      gB (some (List.getD u93 1 .opq)) true fun b93x1 =>
      if (!b93x1) = true then
        (
        Q .ret (S17xr false r93.2)
        )
      else
        (
        J17x40 M C p0 s7 n7 i9 i11 i13 s48 n48 i49 i50 r93.2 Q
        )
      )
    )
  else
    (
    Q (.exit 2) (S17xe2 p0 s7 n7 s48 n48 i49 i50 h)
    )
  ) := by kernel_rfl
theorem L17x23xeq (p0 : Option Ad) (s7 : SA) (n7 : Nat) (i9 : Int) (i11 : Int) (i13 : Int) (s48 : SA) (n48 : Nat) (i49 : Int) (i50 : Int) (h : Heap) (Q : Kont R) : L17x23 mk0 C p0 s7 n7 i9 i11 i13 s48 n48 i49 i50 h Q = (
  letK ((IntKind.wrap .i64 (i9 + i11)) : Int) fun i71 =>
  letK ((decide ((i13 : Int) ≤ i71)) : Bool) fun b72 =>
  if b72 = true then
    (
    atP p0 true fun a76 =>
    gL (ld1 h (Ad.add a76 0)) true fun s78 n78 =>
    chk (true = true → (0 : Int) ≤ i13 ∧ (i13 : Int) < ((n78 : Nat) : Int)) <|
    atP (adP s78) true fun a80 =>
    gI .i64 (ld1 h (Ad.add a80 (Int.toNat i13 * 1))) true fun i81 =>
    letK ((Go.bits .and .i64 i81 1) : Int) fun i83 =>
    letK ((decide ((i83 : Int) = 1)) : Bool) fun b84 =>
    letK ((decide ((i81 : Int) = 0)) : Bool) fun b87 =>
    letK ((if b84 = true then true else b87) : Bool) fun b88 =>
    if b88 = true then
      (
      J17x40 mk0 C p0 s7 n7 i9 i11 i13 s48 n48 i49 i50 h Q
      )
    else
      (
      letK ((IntKind.wrap .i64 (Int.tdiv i81 2)) : Int) fun i92 =>
      (C 33 [(.sl s7 n7), (.int .i64 i92)] h).bind fun r93 =>
      gT 2 r93.1 true fun u93 =>
      gI .i64 (some (List.getD u93 0 .opq)) true fun i93x0 =>
      gB (some (List.getD u93 1 .opq)) true fun b93x1 =>
      if (!b93x1) = true then
        (
        Q .ret (S17xr false r93.2)
        )
      else
        (
        J17x40 mk0 C p0 s7 n7 i9 i11 i13 s48 n48 i49 i50 r93.2 Q
        )
      )
    )
  else
    (
    Q (.exit 2) (S17xe2 p0 s7 n7 s48 n48 i49 i50 h)
    )
  ) := loop_eqn C k17x23 1970324836985473 1970324836974721 (.g [] true (.ptr p0) :: (rep 6 (.g [] true (.sl s7 n7) :: (.any :: (.g [] true (.int .i64 i9) :: (.any :: (.g [] true (.int .i64 i11) :: (.any :: (.g [] true (.int .i64 i13) :: (rep 34 (.g [] true (.sl s48 n48) :: (.g [] true (.int .i64 i49) :: (.g [] true (.int .i64 i50) :: (rep 48 [])))))))))))))) h Q (by kernel_rfl) (L17x23xaux mk0 C p0 s7 n7 i9 i11 i13 s48 n48 i49 i50 h Q)
theorem J17x40xaux (M : Mk) (C : Cal) (p0 : Option Ad) (s7 : SA) (n7 : Nat) (i9 : Int) (i11 : Int) (i13 : Int) (s48 : SA) (n48 : Nat) (i49 : Int) (i50 : Int) (h : Heap) (Q : Kont R) : (forceK tk (.g [] true (.ptr p0) :: (rep 6 (.g [] true (.sl s7 n7) :: (.any :: (.g [] true (.int .i64 i9) :: (.any :: (.g [] true (.int .i64 i11) :: (.any :: (.g [] true (.int .i64 i13) :: (rep 34 (.g [] true (.sl s48 n48) :: (.g [] true (.int .i64 i49) :: (.g [] true (.int .i64 i50) :: (rep 48 [])))))))))))))) fun e => (seqQ (evalE M C k17x28) (roundQ M C k17x23 1970324836985473 1970324836974721 Q)) .normal ⟨e, h⟩) = (
  letK ((IntKind.wrap .i64 (i13 + 1)) : Int) fun i74 =>
  L17x23 M C p0 s7 n7 i9 i11 i74 s48 n48 i49 i50 h Q
  ) := by kernel_rfl
theorem J17x40xeq (C : Cal) (p0 : Option Ad) (s7 : SA) (n7 : Nat) (i9 : Int) (i11 : Int) (i13 : Int) (s48 : SA) (n48 : Nat) (i49 : Int) (i50 : Int) (h : Heap) (Q : Kont R) : J17x40 mk0 C p0 s7 n7 i9 i11 i13 s48 n48 i49 i50 h Q = (
  letK ((IntKind.wrap .i64 (i13 + 1)) : Int) fun i74 =>
  L17x23 mk0 C p0 s7 n7 i9 i11 i74 s48 n48 i49 i50 h Q
  ) := join_eqn (seqQ (evalE mk0 C k17x28) (roundQ mk0 C k17x23 1970324836985473 1970324836974721 Q)) (.g [] true (.ptr p0) :: (rep 6 (.g [] true (.sl s7 n7) :: (.any :: (.g [] true (.int .i64 i9) :: (.any :: (.g [] true (.int .i64 i11) :: (.any :: (.g [] true (.int .i64 i13) :: (rep 34 (.g [] true (.sl s48 n48) :: (.g [] true (.int .i64 i49) :: (.g [] true (.int .i64 i50) :: (rep 48 [])))))))))))))) h (J17x40xaux mk0 C p0 s7 n7 i9 i11 i13 s48 n48 i49 i50 h Q)
theorem X17x12xe0 (M : Mk) (C : Cal) (h : Heap) : Q17x12 M C (.exit 0) (S17xe0 h) = (
  some ((.bool true), h)
  ) := by kernel_rfl
theorem X17x23xr (M : Mk) (C : Cal) (b2 : Bool) (h : Heap) (Q : Kont R) : Q17x23 M C Q .ret (S17xr b2 h) = (
  Q .ret (S17xr b2 h)
  ) := by kernel_rfl
theorem X17x12xr (M : Mk) (C : Cal) (b2 : Bool) (h : Heap) : Q17x12 M C .ret (S17xr b2 h) = (
  some ((.bool b2), h)
  ) := by kernel_rfl
theorem X17x23xe2 (M : Mk) (C : Cal) (p0 : Option Ad) (s7 : SA) (n7 : Nat) (s48 : SA) (n48 : Nat) (i49 : Int) (i50 : Int) (h : Heap) (Q : Kont R) : Q17x23 M C Q (.exit 2) (S17xe2 p0 s7 n7 s48 n48 i49 i50 h) = (
  letK ((IntKind.wrap .i64 (i50 + 1)) : Int) fun i98 =>
  L17x12 M C p0 s7 n7 s48 n48 i49 i98 h Q
  ) := by kernel_rfl
def k12x6 : AC := .ret
def k12x5 : AC := .seq (.mask 1) k12x6
def k12x4 : AC := .mask 2
def k12x3 : AC := .seq (.cond (.tmp 13)
   (.seq (.ops false [
      ⟨(some 0), .move (.c (.bool false)), none, []⟩]) k12x5)
   (.skip)) k12x4
def k12x9 : AC := .ret
def k12x8 : AC := .seq (.mask 1) k12x9
def k12x7 : AC := .seq (.ops true [
    ⟨(some 19), .move (.tmp 2), none, []⟩,
    ⟨(some 20), .bin .other .eql (.tmp 19) (.c (.int .i64 0)), none, []⟩,
    ⟨(some 21), .move (.tmp 20), none, []⟩,
    ⟨(some 22), .move (.tmp 3), (some (21, true)), []⟩,
    ⟨(some 23), .bin .other .eql (.tmp 22) (.c (.int .i64 2)), (some (21, true)), []⟩,
    ⟨(some 24), .pick (.tmp 21) (.tmp 23) (.c (.bool false)), none, []⟩,
    ⟨(some 0), .move (.tmp 24), none, []⟩]) k12x8
def k12x2 : AC := .seq (.ops false [
    ⟨(some 15), .move (.tmp 1), none, []⟩,
    ⟨(some 16), .call 14 [(.tmp 15), (.c (.int .i64 1)), (.c (.int .i64 1)), (.c (.int .i64 1))] [(.cell (.int .i64)), (.cell (.int .i64))] .opq, none, []⟩,
    ⟨(some 14), .move (.tmp 16), none, []⟩,
    ⟨(some 17), .extract (.tmp 14) 0, none, []⟩,
    ⟨(some 18), .extract (.tmp 14) 1, none, []⟩,
    ⟨(some 3), .move (.tmp 17), none, []⟩,
    ⟨(some 2), .move (.tmp 18), none, []⟩]) k12x7
def k12x1 : AC := .seq (.seq (.ops true [
    ⟨(some 8), .move (.tmp 2), none, []⟩,
    ⟨(some 9), .bin .other .neq (.tmp 8) (.c (.int .i64 0)), none, []⟩,
    ⟨(some 10), .move (.tmp 9), none, []⟩,
    ⟨(some 11), .move (.tmp 1), (some (10, false)), []⟩,
    ⟨(some 12), .bin .ptr .eql (.tmp 11) (.c (.ptr none)), (some (10, false)), []⟩,
    ⟨(some 13), .pick (.tmp 10) (.c (.bool true)) (.tmp 12), none, []⟩]) k12x3) k12x2
def k12x0 : AC := .seq (.ops false [
    ⟨(some 5), .call 10 [(.c (.int .i64 64)), (.c (.int .i64 8)), (.c (.int .i64 16))] [(.cell .ptr), (.cell (.int .i64))] .opq, none, []⟩,
    ⟨(some 4), .move (.tmp 5), none, []⟩,
    ⟨(some 6), .extract (.tmp 4) 0, none, []⟩,
    ⟨(some 7), .extract (.tmp 4) 1, none, []⟩,
    ⟨(some 1), .move (.tmp 6), none, []⟩,
    ⟨(some 2), .move (.tmp 7), none, []⟩]) k12x1
/-- provenance/provenancekeep4.heapFact -/
def c12 : AFn := ⟨25, [.tmp 0],
  .seq (.ops false [
    ⟨(some 0), .move (.c (.bool false)), none, []⟩]) k12x0⟩
theorem r12 (h : Heap) : runE M C c12 [] h = (
  (C 10 [(.int .i64 64), (.int .i64 8), (.int .i64 16)] h).bind fun r5 =>
  gT 2 r5.1 true fun u5 =>
  gP (some (List.getD u5 0 .opq)) true fun p5x0 =>
  gI .i64 (some (List.getD u5 1 .opq)) true fun i5x1 =>
  letK ((!decide ((i5x1 : Int) = 0)) : Bool) fun b9 =>
  letK ((Option.isNone p5x0) : Bool) fun b12 =>
  letK ((if b9 = true then true else b12) : Bool) fun b13 =>
  if b13 = true then
    (
    some ((.bool false), r5.2)
    )
  else
    (
    (C 14 [(.ptr p5x0), (.int .i64 1), (.int .i64 1), (.int .i64 1)] r5.2).bind fun r16 =>
    gT 2 r16.1 true fun u16 =>
    gI .i64 (some (List.getD u16 0 .opq)) true fun i16x0 =>
    gI .i64 (some (List.getD u16 1 .opq)) true fun i16x1 =>
    letK ((decide ((i16x1 : Int) = 0)) : Bool) fun b20 =>
    letK ((decide ((i16x0 : Int) = 2)) : Bool) fun b23 =>
    letK ((if b20 = true then b23 else false) : Bool) fun b24 =>
    some ((.bool b24), r16.2)
    )
  ) := by kernel_rfl
theorem cf12 : cFn Try.prog 12 = some c12 := by kernel_rfl
theorem e12 (h : Heap) : E 12 [] h = (
  (E 10 [(.int .i64 64), (.int .i64 8), (.int .i64 16)] h).bind fun r5 =>
  gT 2 r5.1 true fun u5 =>
  gP (some (List.getD u5 0 .opq)) true fun p5x0 =>
  gI .i64 (some (List.getD u5 1 .opq)) true fun i5x1 =>
  letK ((!decide ((i5x1 : Int) = 0)) : Bool) fun b9 =>
  letK ((Option.isNone p5x0) : Bool) fun b12 =>
  letK ((if b9 = true then true else b12) : Bool) fun b13 =>
  if b13 = true then
    (
    some ((.bool false), r5.2)
    )
  else
    (
    (E 14 [(.ptr p5x0), (.int .i64 1), (.int .i64 1), (.int .i64 1)] r5.2).bind fun r16 =>
    gT 2 r16.1 true fun u16 =>
    gI .i64 (some (List.getD u16 0 .opq)) true fun i16x0 =>
    gI .i64 (some (List.getD u16 1 .opq)) true fun i16x1 =>
    letK ((decide ((i16x1 : Int) = 0)) : Bool) fun b20 =>
    letK ((decide ((i16x0 : Int) = 2)) : Bool) fun b23 =>
    letK ((if b20 = true then b23 else false) : Bool) fun b24 =>
    some ((.bool b24), r16.2)
    )
  ) := (EV_eq (P := Try.prog) (T := T0) rfl cf12 [] h).trans (r12 mk0 E h)
def k3x6 : AC := .ret
def k3x5 : AC := .seq (.mask 64) k3x6
def k3x4 : AC := .mask 132
def k3x3 : AC := .seq (.cond (.tmp 39)
   (.seq (.ops false [
      ⟨(some 6), .move (.c (.bool false)), none, []⟩]) k3x5)
   (.skip)) k3x4
def k3x15 : AC := .exit 0
def k3x14 : AC := .mask 123145302311552
def k3x26 : AC := .ret
def k3x25 : AC := .seq (.mask 64) k3x26
def k3x24 : AC := .mask 123145302325888
def k3x23 : AC := .seq (.cond (.tmp 72)
   (.seq (.ops false [
      ⟨(some 6), .move (.c (.bool false)), none, []⟩]) k3x25)
   (.skip)) k3x24
def k3x35 : AC := .ret
def k3x34 : AC := .seq (.mask 64) k3x35
def k3x33 : AC := .mask 123145302311552
def k3x32 : AC := .seq (.cond (.tmp 95)
   (.seq (.ops false [
      ⟨(some 6), .move (.c (.bool false)), none, []⟩]) k3x34)
   (.skip)) k3x33
def k3x31 : AC := .seq (.ops true [
    ⟨(some 85), .move (.tmp 17), none, []⟩,
    ⟨(some 86), .bin .other .neq (.tmp 85) (.c (.int .i64 0)), none, []⟩,
    ⟨(some 87), .move (.tmp 86), none, []⟩,
    ⟨(some 88), .move (.tmp 15), (some (87, false)), []⟩,
    ⟨(some 89), .bin .other .neq (.tmp 88) (.c (.int .i64 1)), (some (87, false)), []⟩,
    ⟨(some 90), .pick (.tmp 87) (.c (.bool true)) (.tmp 89), none, []⟩,
    ⟨(some 91), .move (.tmp 90), none, []⟩,
    ⟨(some 92), .move (.tmp 16), (some (91, false)), []⟩,
    ⟨(some 93), .move (.tmp 11), (some (91, false)), []⟩,
    ⟨(some 94), .bin .other .neq (.tmp 92) (.tmp 93), (some (91, false)), []⟩,
    ⟨(some 95), .pick (.tmp 91) (.c (.bool true)) (.tmp 94), none, []⟩]) k3x32
def k3x30 : AC := .seq (.ops false [
    ⟨(some 79), .move (.tmp 7), none, []⟩,
    ⟨(some 80), .move (.tmp 13), none, []⟩,
    ⟨(some 81), .call 15 [(.tmp 79), (.tmp 80)] [(.cell (.int .i64)), (.cell (.int .i64)), (.cell (.int .i64))] .opq, none, []⟩,
    ⟨(some 78), .move (.tmp 81), none, []⟩,
    ⟨(some 82), .extract (.tmp 78) 0, none, []⟩,
    ⟨(some 83), .extract (.tmp 78) 1, none, []⟩,
    ⟨(some 84), .extract (.tmp 78) 2, none, []⟩,
    ⟨(some 15), .move (.tmp 82), none, []⟩,
    ⟨(some 16), .move (.tmp 83), none, []⟩,
    ⟨(some 17), .move (.tmp 84), none, []⟩]) k3x31
def k3x29 : AC := .join 123145302311552
def k3x28 : AC := .seq (.cond (.tmp 73)
   (.seq (.ops false [
      ⟨(some 74), .move (.tmp 9), none, []⟩,
      ⟨(some 75), .move (.tmp 11), none, []⟩,
      ⟨(some 76), .bin .other .add (.tmp 75) (.c (.int .i64 1)), none, []⟩,
      ⟨(some 77), .bin .other .add (.tmp 74) (.tmp 76), none, []⟩,
      ⟨(some 9), .move (.tmp 77), none, []⟩]) k3x30)
   (.skip)) k3x29
def k3x41 : AC := .ret
def k3x40 : AC := .seq (.mask 64) k3x41
def k3x39 : AC := .mask 123145302311552
def k3x38 : AC := .seq (.cond (.tmp 105)
   (.seq (.ops false [
      ⟨(some 6), .move (.c (.bool false)), none, []⟩]) k3x40)
   (.skip)) k3x39
def k3x37 : AC := .seq (.ops false [
    ⟨(some 101), .move (.tmp 18), none, []⟩,
    ⟨(some 102), .move (.tmp 19), none, []⟩,
    ⟨(some 103), .bin .other .add (.tmp 101) (.tmp 102), none, []⟩,
    ⟨(some 104), .move (.tmp 9), none, []⟩,
    ⟨(some 105), .bin .other .neq (.tmp 103) (.tmp 104), none, []⟩]) k3x38
def k3x27 : AC := .seq (.ops false [
    ⟨(some 97), .move (.tmp 7), none, []⟩,
    ⟨(some 98), .call 16 [(.tmp 97)] [(.cell (.int .i64)), (.cell (.int .i64))] .opq, none, []⟩,
    ⟨(some 96), .move (.tmp 98), none, []⟩,
    ⟨(some 99), .extract (.tmp 96) 0, none, []⟩,
    ⟨(some 100), .extract (.tmp 96) 1, none, []⟩,
    ⟨(some 18), .move (.tmp 99), none, []⟩,
    ⟨(some 19), .move (.tmp 100), none, []⟩]) k3x37
def k3x22 : AC := .seq (.seq (.ops false [
    ⟨(some 73), .move (.tmp 12), none, []⟩]) k3x28) k3x27
def k3x21 : AC := .seq (.seq (.ops true [
    ⟨(some 61), .move (.tmp 12), none, []⟩,
    ⟨(some 62), .move (.tmp 14), none, []⟩,
    ⟨(some 63), .bin .other .eql (.tmp 62) (.c (.int .i64 0)), none, []⟩,
    ⟨(some 64), .bin .bool .neq (.tmp 61) (.tmp 63), none, []⟩,
    ⟨(some 65), .move (.tmp 64), none, []⟩,
    ⟨(some 66), .move (.tmp 12), (some (65, false)), []⟩,
    ⟨(some 67), .un .not (.tmp 66), (some (65, false)), []⟩,
    ⟨(some 68), .move (.tmp 67), (some (65, false)), []⟩,
    ⟨(some 69), .move (.tmp 14), (some (68, true)), []⟩,
    ⟨(some 70), .bin .other .neq (.tmp 69) (.c (.int .i64 16)), (some (68, true)), []⟩,
    ⟨(some 71), .pick (.tmp 68) (.tmp 70) (.c (.bool false)), (some (65, false)), []⟩,
    ⟨(some 72), .pick (.tmp 65) (.c (.bool true)) (.tmp 71), none, []⟩]) k3x23) k3x22
def k3x20 : AC := .seq (.ops false [
    ⟨(some 56), .move (.tmp 7), none, []⟩,
    ⟨(some 57), .move (.tmp 11), none, []⟩,
    ⟨(some 58), .call 14 [(.tmp 56), (.c (.int .i64 1)), (.tmp 57), (.c (.int .i64 1))] [(.cell (.int .i64)), (.cell (.int .i64))] .opq, none, []⟩,
    ⟨(some 55), .move (.tmp 58), none, []⟩,
    ⟨(some 59), .extract (.tmp 55) 0, none, []⟩,
    ⟨(some 60), .extract (.tmp 55) 1, none, []⟩,
    ⟨(some 13), .move (.tmp 59), none, []⟩,
    ⟨(some 14), .move (.tmp 60), none, []⟩]) k3x21
def k3x19 : AC := .seq (.ops false [
    ⟨(some 52), .move (.tmp 7), none, []⟩,
    ⟨(some 53), .move (.tmp 11), none, []⟩,
    ⟨(some 54), .call 13 [(.tmp 52), (.tmp 53)] [(.cell .bool)] (.bool false), none, []⟩,
    ⟨(some 12), .move (.tmp 54), none, []⟩]) k3x20
def k3x18 : AC := .seq (.ops false [
    ⟨(some 50), .move (.tmp 11), none, []⟩,
    ⟨(some 51), .call 11 [(.tmp 50), (.c (.int .i64 60))] [(.cell (.int .i64))] (.int .i64 0), none, []⟩,
    ⟨(some 11), .move (.tmp 51), none, []⟩]) k3x19
def k3x17 : AC := .mask 123145302311552
def k3x16 : AC := .ops false [
    ⟨(some 106), .bin .other .add (.tmp 46) (.c (.int .i64 1)), none, []⟩,
    ⟨(some 46), .move (.tmp 106), none, []⟩]
def k3x13 : AC := .seq (.seq (.block 1 (.seq (.ops false [
     ⟨(some 48), .indexAddr 1 (.tmp 44) (.tmp 46), none, []⟩,
     ⟨(some 49), .load (.cell (.int .i64)) (.tmp 48), none, []⟩,
     ⟨(some 11), .move (.tmp 49), none, []⟩]) k3x18)) k3x17) k3x16
def k3x12 : AC := .seq (.seq (.cond (.tmp 47)
   (.skip)
   (.seq (.mask 128) k3x15)) k3x14) k3x13
def k3x11 : AC := .seq (.ops false [
    ⟨(some 47), .bin .other .lss (.tmp 46) (.tmp 45), none, []⟩]) k3x12
def k3x10 : AC := .mask 128
def k3x9 : AC := .seq (.block 0 (.loop 123145302311552 128 k3x11)) k3x10
def k3x43 : AC := .ret
def k3x42 : AC := .seq (.mask 64) k3x43
def k3x8 : AC := .seq (.ops false [
    ⟨(some 107), .move (.tmp 7), none, []⟩,
    ⟨(some 108), .call 17 [(.tmp 107)] [(.cell .bool)] (.bool false), none, []⟩,
    ⟨(some 6), .move (.tmp 108), none, []⟩]) k3x42
def k3x7 : AC := .seq (.seq (.ops false [
    ⟨(some 40), .move (.tmp 2), none, []⟩,
    ⟨(some 41), .move (.tmp 2), none, []⟩,
    ⟨(some 42), .lenSl (.tmp 41), none, []⟩,
    ⟨(some 43), .mm false [(.tmp 42), (.c (.int .i64 40))], none, []⟩,
    ⟨(some 44), .slice 1 (.tmp 40) none (some (.tmp 43)), none, []⟩,
    ⟨(some 45), .lenSl (.tmp 44), none, []⟩,
    ⟨(some 46), .move (.c (.int .i64 0)), none, []⟩]) k3x9) k3x8
def k3x2 : AC := .seq (.ops false [
    ⟨(some 9), .move (.c (.int .i64 0)), none, []⟩]) k3x7
def k3x1 : AC := .seq (.seq (.ops true [
    ⟨(some 30), .call 12 [] [(.cell .bool)] (.bool false), none, []⟩,
    ⟨(some 31), .un .not (.tmp 30), none, []⟩,
    ⟨(some 32), .move (.tmp 31), none, []⟩,
    ⟨(some 33), .move (.tmp 8), (some (32, false)), []⟩,
    ⟨(some 34), .bin .other .neq (.tmp 33) (.c (.int .i64 0)), (some (32, false)), []⟩,
    ⟨(some 35), .pick (.tmp 32) (.c (.bool true)) (.tmp 34), none, []⟩,
    ⟨(some 36), .move (.tmp 35), none, []⟩,
    ⟨(some 37), .move (.tmp 7), (some (36, false)), []⟩,
    ⟨(some 38), .bin .ptr .eql (.tmp 37) (.c (.ptr none)), (some (36, false)), []⟩,
    ⟨(some 39), .pick (.tmp 36) (.c (.bool true)) (.tmp 38), none, []⟩]) k3x3) k3x2
def k3x0 : AC := .seq (.ops false [
    ⟨(some 21), .move (.tmp 0), none, []⟩,
    ⟨(some 22), .call 11 [(.tmp 21), (.c (.int .i64 300))] [(.cell (.int .i64))] (.int .i64 0), none, []⟩,
    ⟨(some 23), .bin .other .add (.c (.int .i64 64)) (.tmp 22), none, []⟩,
    ⟨(some 24), .move (.tmp 1), none, []⟩,
    ⟨(some 25), .call 11 [(.tmp 24), (.c (.int .i64 20))] [(.cell (.int .i64))] (.int .i64 0), none, []⟩,
    ⟨(some 26), .bin .other .add (.c (.int .i64 4)) (.tmp 25), none, []⟩,
    ⟨(some 27), .call 10 [(.tmp 23), (.c (.int .i64 8)), (.tmp 26)] [(.cell .ptr), (.cell (.int .i64))] .opq, none, []⟩,
    ⟨(some 20), .move (.tmp 27), none, []⟩,
    ⟨(some 28), .extract (.tmp 20) 0, none, []⟩,
    ⟨(some 29), .extract (.tmp 20) 1, none, []⟩,
    ⟨(some 7), .move (.tmp 28), none, []⟩,
    ⟨(some 8), .move (.tmp 29), none, []⟩]) k3x1
/-- provenance/provenancekeep4.HeapRoom -/
def c3 : AFn := ⟨109, [.tmp 6],
  .seq (.ops false [
    ⟨(some 6), .move (.c (.bool false)), none, []⟩]) k3x0⟩
def S3xr (b6 : Bool) (h : Heap) : St := ⟨(rep 6 (.g [] true (.bool b6) :: (rep 102 []))), h⟩
def S3xe0 (p7 : Option Ad) (h : Heap) : St := ⟨(rep 7 (.g [] true (.ptr p7) :: (rep 101 []))), h⟩
noncomputable def Q3x11 (M : Mk) (C : Cal) : Kont (AV × Heap) := (blockQ 0 (seqQ (evalE M C k3x10) (seqQ (evalE M C k3x8) (endQ [.tmp 6]))))
noncomputable def L3x11 (p7 : Option Ad) (i9 : Int) (s44 : SA) (n44 : Nat) (i45 : Int) (i46 : Int) (h : Heap) (Q : Kont R) : Option R := loopE (evalE M C k3x11) 123145302311552 128 ⟨(rep 7 (.g [] true (.ptr p7) :: (.any :: (.g [] true (.int .i64 i9) :: (rep 34 (.g [] true (.sl s44 n44) :: (.g [] true (.int .i64 i45) :: (.g [] true (.int .i64 i46) :: (rep 62 []))))))))), h⟩ Q
noncomputable def J3x36 (M : Mk) (C : Cal) (p7 : Option Ad) (i9 : Int) (s44 : SA) (n44 : Nat) (i45 : Int) (i46 : Int) (h : Heap) (Q : Kont R) : Option R := M R (seqQ (evalE M C k3x27) (blockQ 1 (seqQ (evalE M C k3x17) (seqQ (evalE M C k3x16) (roundQ M C k3x11 123145302311552 128 Q))))) (rep 7 (.g [] true (.ptr p7) :: (.any :: (.g [] true (.int .i64 i9) :: (rep 34 (.g [] true (.sl s44 n44) :: (.g [] true (.int .i64 i45) :: (.g [] true (.int .i64 i46) :: (rep 62 []))))))))) h
theorem r3 (i0 : Int) (i1 : Int) (s2 : SA) (n2 : Nat) (h : Heap) : runE M C c3 [(.int .i64 i0), (.int .i64 i1), (.sl s2 n2)] h = (
  (C 11 [(.int .i64 i0), (.int .i64 300)] h).bind fun r22 =>
  gI .i64 (some r22.1) true fun i22 =>
  letK ((IntKind.wrap .i64 (64 + i22)) : Int) fun i23 =>
  (C 11 [(.int .i64 i1), (.int .i64 20)] r22.2).bind fun r25 =>
  gI .i64 (some r25.1) true fun i25 =>
  letK ((IntKind.wrap .i64 (4 + i25)) : Int) fun i26 =>
  (C 10 [(.int .i64 i23), (.int .i64 8), (.int .i64 i26)] r25.2).bind fun r27 =>
  gT 2 r27.1 true fun u27 =>
  gP (some (List.getD u27 0 .opq)) true fun p27x0 =>
  gI .i64 (some (List.getD u27 1 .opq)) true fun i27x1 =>
  (C 12 [] r27.2).bind fun r30 =>
  gB (some r30.1) true fun b30 =>
  letK ((!decide ((i27x1 : Int) = 0)) : Bool) fun b34 =>
  letK ((if (!b30) = true then true else b34) : Bool) fun b35 =>
  letK ((Option.isNone p27x0) : Bool) fun b38 =>
  letK ((if b35 = true then true else b38) : Bool) fun b39 =>
  if b39 = true then
    (
    some ((.bool false), r30.2)
    )
  else
    (
    letK ((foldMM false ((n2 : Nat) : Int) [40]) : Int) fun i43 =>
    chkC (true = true → (0 : Int) ≤ i43 ∧ hiOk r30.2 s2 n2 1 i43) <|
    letK ((Int.toNat i43) : Nat) fun n44 =>
    L3x11 M C p27x0 0 s2 n44 ((n44 : Nat) : Int) 0 r30.2 (Q3x11 M C)
    )
  ) := by kernel_rfl
theorem cf3 : cFn Try.prog 3 = some c3 := by kernel_rfl
theorem e3 (i0 : Int) (i1 : Int) (s2 : SA) (n2 : Nat) (h : Heap) : E 3 [(.int .i64 i0), (.int .i64 i1), (.sl s2 n2)] h = (
  (E 11 [(.int .i64 i0), (.int .i64 300)] h).bind fun r22 =>
  gI .i64 (some r22.1) true fun i22 =>
  letK ((IntKind.wrap .i64 (64 + i22)) : Int) fun i23 =>
  (E 11 [(.int .i64 i1), (.int .i64 20)] r22.2).bind fun r25 =>
  gI .i64 (some r25.1) true fun i25 =>
  letK ((IntKind.wrap .i64 (4 + i25)) : Int) fun i26 =>
  (E 10 [(.int .i64 i23), (.int .i64 8), (.int .i64 i26)] r25.2).bind fun r27 =>
  gT 2 r27.1 true fun u27 =>
  gP (some (List.getD u27 0 .opq)) true fun p27x0 =>
  gI .i64 (some (List.getD u27 1 .opq)) true fun i27x1 =>
  (E 12 [] r27.2).bind fun r30 =>
  gB (some r30.1) true fun b30 =>
  letK ((!decide ((i27x1 : Int) = 0)) : Bool) fun b34 =>
  letK ((if (!b30) = true then true else b34) : Bool) fun b35 =>
  letK ((Option.isNone p27x0) : Bool) fun b38 =>
  letK ((if b35 = true then true else b38) : Bool) fun b39 =>
  if b39 = true then
    (
    some ((.bool false), r30.2)
    )
  else
    (
    letK ((foldMM false ((n2 : Nat) : Int) [40]) : Int) fun i43 =>
    chkC (true = true → (0 : Int) ≤ i43 ∧ hiOk r30.2 s2 n2 1 i43) <|
    letK ((Int.toNat i43) : Nat) fun n44 =>
    L3x11 mk0 E p27x0 0 s2 n44 ((n44 : Nat) : Int) 0 r30.2 (Q3x11 mk0 E)
    )
  ) := (EV_eq (P := Try.prog) (T := T0) rfl cf3 [(.int .i64 i0), (.int .i64 i1), (.sl s2 n2)] h).trans (r3 mk0 E i0 i1 s2 n2 h)
theorem L3x11xaux (p7 : Option Ad) (i9 : Int) (s44 : SA) (n44 : Nat) (i45 : Int) (i46 : Int) (h : Heap) (Q : Kont R) : (restrF 123145302311552 ⟨(rep 7 (.g [] true (.ptr p7) :: (.any :: (.g [] true (.int .i64 i9) :: (rep 34 (.g [] true (.sl s44 n44) :: (.g [] true (.int .i64 i45) :: (.g [] true (.int .i64 i46) :: (rep 62 []))))))))), h⟩ fun σ => evalE M C k3x11 σ (roundQ M C k3x11 123145302311552 128 Q)) = (
  letK ((decide ((i46 : Int) < i45)) : Bool) fun b47 =>
  if b47 = true then
    (
    chk (true = true → (0 : Int) ≤ i46 ∧ (i46 : Int) < ((n44 : Nat) : Int)) <|
    atP (adP s44) true fun a48 =>
    gI .i64 (ld1 h (Ad.add a48 (Int.toNat i46 * 1))) true fun i49 =>
    (C 11 [(.int .i64 i49), (.int .i64 60)] h).bind fun r51 =>
    gI .i64 (some r51.1) true fun i51 =>
    (C 13 [(.ptr p7), (.int .i64 i51)] r51.2).bind fun r54 =>
    gB (some r54.1) true fun b54 =>
    (C 14 [(.ptr p7), (.int .i64 1), (.int .i64 i51), (.int .i64 1)] r54.2).bind fun r58 =>
    gT 2 r58.1 true fun u58 =>
    gI .i64 (some (List.getD u58 0 .opq)) true fun i58x0 =>
    gI .i64 (some (List.getD u58 1 .opq)) true fun i58x1 =>
    letK ((decide ((i58x1 : Int) = 0)) : Bool) fun b63 =>
    letK ((!(b54 == b63)) : Bool) fun b64 =>
    letK ((!decide ((i58x1 : Int) = 16)) : Bool) fun b70 =>
    letK ((if (!b54) = true then b70 else false) : Bool) fun b71 =>
    letK ((if b64 = true then true else b71) : Bool) fun b72 =>
    if b72 = true then
      (
      Q .ret (S3xr false r58.2)
      )
    else
      (
      if b54 = true then
        (
        letK ((IntKind.wrap .i64 (i51 + 1)) : Int) fun i76 =>
        letK ((IntKind.wrap .i64 (i9 + i76)) : Int) fun i77 =>
        (C 15 [(.ptr p7), (.int .i64 i58x0)] r58.2).bind fun r81 =>
        gT 3 r81.1 true fun u81 =>
        gI .i64 (some (List.getD u81 0 .opq)) true fun i81x0 =>
        gI .i64 (some (List.getD u81 1 .opq)) true fun i81x1 =>
        gI .i64 (some (List.getD u81 2 .opq)) true fun i81x2 =>
        letK ((!decide ((i81x2 : Int) = 0)) : Bool) fun b86 =>
        letK ((!decide ((i81x0 : Int) = 1)) : Bool) fun b89 =>
        letK ((if b86 = true then true else b89) : Bool) fun b90 =>
        letK ((!decide ((i81x1 : Int) = i51)) : Bool) fun b94 =>
        letK ((if b90 = true then true else b94) : Bool) fun b95 =>
        if b95 = true then
          (
          Q .ret (S3xr false r81.2)
          )
        else
          (
          J3x36 M C p7 i77 s44 n44 i45 i46 r81.2 Q
          )
        )
      else
        (
        J3x36 M C p7 i9 s44 n44 i45 i46 r58.2 Q
        )
      )
    )
  else
    (
    Q (.exit 0) (S3xe0 p7 h)
    )
  ) := by kernel_rfl
theorem L3x11xeq (p7 : Option Ad) (i9 : Int) (s44 : SA) (n44 : Nat) (i45 : Int) (i46 : Int) (h : Heap) (Q : Kont R) : L3x11 mk0 C p7 i9 s44 n44 i45 i46 h Q = (
  letK ((decide ((i46 : Int) < i45)) : Bool) fun b47 =>
  if b47 = true then
    (
    chk (true = true → (0 : Int) ≤ i46 ∧ (i46 : Int) < ((n44 : Nat) : Int)) <|
    atP (adP s44) true fun a48 =>
    gI .i64 (ld1 h (Ad.add a48 (Int.toNat i46 * 1))) true fun i49 =>
    (C 11 [(.int .i64 i49), (.int .i64 60)] h).bind fun r51 =>
    gI .i64 (some r51.1) true fun i51 =>
    (C 13 [(.ptr p7), (.int .i64 i51)] r51.2).bind fun r54 =>
    gB (some r54.1) true fun b54 =>
    (C 14 [(.ptr p7), (.int .i64 1), (.int .i64 i51), (.int .i64 1)] r54.2).bind fun r58 =>
    gT 2 r58.1 true fun u58 =>
    gI .i64 (some (List.getD u58 0 .opq)) true fun i58x0 =>
    gI .i64 (some (List.getD u58 1 .opq)) true fun i58x1 =>
    letK ((decide ((i58x1 : Int) = 0)) : Bool) fun b63 =>
    letK ((!(b54 == b63)) : Bool) fun b64 =>
    letK ((!decide ((i58x1 : Int) = 16)) : Bool) fun b70 =>
    letK ((if (!b54) = true then b70 else false) : Bool) fun b71 =>
    letK ((if b64 = true then true else b71) : Bool) fun b72 =>
    if b72 = true then
      (
      Q .ret (S3xr false r58.2)
      )
    else
      (
      if b54 = true then
        (
        letK ((IntKind.wrap .i64 (i51 + 1)) : Int) fun i76 =>
        letK ((IntKind.wrap .i64 (i9 + i76)) : Int) fun i77 =>
        (C 15 [(.ptr p7), (.int .i64 i58x0)] r58.2).bind fun r81 =>
        gT 3 r81.1 true fun u81 =>
        gI .i64 (some (List.getD u81 0 .opq)) true fun i81x0 =>
        gI .i64 (some (List.getD u81 1 .opq)) true fun i81x1 =>
        gI .i64 (some (List.getD u81 2 .opq)) true fun i81x2 =>
        letK ((!decide ((i81x2 : Int) = 0)) : Bool) fun b86 =>
        letK ((!decide ((i81x0 : Int) = 1)) : Bool) fun b89 =>
        letK ((if b86 = true then true else b89) : Bool) fun b90 =>
        letK ((!decide ((i81x1 : Int) = i51)) : Bool) fun b94 =>
        letK ((if b90 = true then true else b94) : Bool) fun b95 =>
        if b95 = true then
          (
          Q .ret (S3xr false r81.2)
          )
        else
          (
          J3x36 mk0 C p7 i77 s44 n44 i45 i46 r81.2 Q
          )
        )
      else
        (
        J3x36 mk0 C p7 i9 s44 n44 i45 i46 r58.2 Q
        )
      )
    )
  else
    (
    Q (.exit 0) (S3xe0 p7 h)
    )
  ) := loop_eqn C k3x11 123145302311552 128 (rep 7 (.g [] true (.ptr p7) :: (.any :: (.g [] true (.int .i64 i9) :: (rep 34 (.g [] true (.sl s44 n44) :: (.g [] true (.int .i64 i45) :: (.g [] true (.int .i64 i46) :: (rep 62 []))))))))) h Q (by kernel_rfl) (L3x11xaux mk0 C p7 i9 s44 n44 i45 i46 h Q)
theorem J3x36xaux (M : Mk) (C : Cal) (p7 : Option Ad) (i9 : Int) (s44 : SA) (n44 : Nat) (i45 : Int) (i46 : Int) (h : Heap) (Q : Kont R) : (forceK tk (rep 7 (.g [] true (.ptr p7) :: (.any :: (.g [] true (.int .i64 i9) :: (rep 34 (.g [] true (.sl s44 n44) :: (.g [] true (.int .i64 i45) :: (.g [] true (.int .i64 i46) :: (rep 62 []))))))))) fun e => (seqQ (evalE M C k3x27) (blockQ 1 (seqQ (evalE M C k3x17) (seqQ (evalE M C k3x16) (roundQ M C k3x11 123145302311552 128 Q))))) .normal ⟨e, h⟩) = (
  (C 16 [(.ptr p7)] h).bind fun r98 =>
  gT 2 r98.1 true fun u98 =>
  gI .i64 (some (List.getD u98 0 .opq)) true fun i98x0 =>
  gI .i64 (some (List.getD u98 1 .opq)) true fun i98x1 =>
  letK ((IntKind.wrap .i64 (i98x0 + i98x1)) : Int) fun i103 =>
  letK ((!decide ((i103 : Int) = i9)) : Bool) fun b105 =>
  if b105 = true then
    (
    Q .ret (S3xr false r98.2)
    )
  else
    (
    letK ((IntKind.wrap .i64 (i46 + 1)) : Int) fun i106 =>
    L3x11 M C p7 i9 s44 n44 i45 i106 r98.2 Q
    )
  ) := by kernel_rfl
theorem J3x36xeq (C : Cal) (p7 : Option Ad) (i9 : Int) (s44 : SA) (n44 : Nat) (i45 : Int) (i46 : Int) (h : Heap) (Q : Kont R) : J3x36 mk0 C p7 i9 s44 n44 i45 i46 h Q = (
  (C 16 [(.ptr p7)] h).bind fun r98 =>
  gT 2 r98.1 true fun u98 =>
  gI .i64 (some (List.getD u98 0 .opq)) true fun i98x0 =>
  gI .i64 (some (List.getD u98 1 .opq)) true fun i98x1 =>
  letK ((IntKind.wrap .i64 (i98x0 + i98x1)) : Int) fun i103 =>
  letK ((!decide ((i103 : Int) = i9)) : Bool) fun b105 =>
  if b105 = true then
    (
    Q .ret (S3xr false r98.2)
    )
  else
    (
    letK ((IntKind.wrap .i64 (i46 + 1)) : Int) fun i106 =>
    L3x11 mk0 C p7 i9 s44 n44 i45 i106 r98.2 Q
    )
  ) := join_eqn (seqQ (evalE mk0 C k3x27) (blockQ 1 (seqQ (evalE mk0 C k3x17) (seqQ (evalE mk0 C k3x16) (roundQ mk0 C k3x11 123145302311552 128 Q))))) (rep 7 (.g [] true (.ptr p7) :: (.any :: (.g [] true (.int .i64 i9) :: (rep 34 (.g [] true (.sl s44 n44) :: (.g [] true (.int .i64 i45) :: (.g [] true (.int .i64 i46) :: (rep 62 []))))))))) h (J3x36xaux mk0 C p7 i9 s44 n44 i45 i46 h Q)
theorem X3x11xr (M : Mk) (C : Cal) (b6 : Bool) (h : Heap) : Q3x11 M C .ret (S3xr b6 h) = (
  some ((.bool b6), h)
  ) := by kernel_rfl
theorem X3x11xe0 (M : Mk) (C : Cal) (p7 : Option Ad) (h : Heap) : Q3x11 M C (.exit 0) (S3xe0 p7 h) = (
  (C 17 [(.ptr p7)] h).bind fun r108 =>
  gB (some r108.1) true fun b108 =>
  some ((.bool b108), r108.2)
  ) := by kernel_rfl
end
end Go.Proofs.Ytecgpcpgklholaa.K
