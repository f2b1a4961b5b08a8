import Derived.Test.YtmfmnbldngfelaaAbsSym
import Derived.Test.YtmfmnbldngfelaaProg
import Derived.KernelRfl
set_option linter.unusedVariables false
set_option maxRecDepth 100000
namespace Go.Proofs.Ytmfmnbldngfelaa.T
open Go Go.Proofs.Ytmfmnbldngfelaa.Abs Go.Proofs
abbrev rep (n : Nat) (l : List SV) : List SV := List.replicate n .any ++ l
noncomputable def T0 : Prims := fun _ => none
noncomputable def E : Cal := EV Try.prog T0
section
variable {R : Type} (M : Mk) (C : Cal)
def k14x2 : AC := .ret
def k14x1 : AC := .seq (.mask 16) k14x2
def k14x0 : AC := .seq (.ops false [
    ⟨(some 5), .move (.tmp 0), none, []⟩,
    ⟨(some 6), .move (.tmp 1), none, []⟩,
    ⟨(some 7), .call 37 [(.tmp 5), (.tmp 6)] [(.cell (.int .i64))] (.int .i64 0), none, []⟩,
    ⟨(some 4), .move (.tmp 7), none, []⟩]) k14x1
/-- provenance/provenanceref4.Rest -/
def c14 : AFn := ⟨8, [.tmp 4],
  .seq (.ops false [
    ⟨(some 4), .move (.c (.int .i64 0)), none, []⟩]) k14x0⟩
theorem r14 (i0 : Int) (i1 : Int) (h : Heap) : runE M C c14 [(.int .i64 i0), (.int .i64 i1)] h = (
  (C 37 [(.int .i64 i0), (.int .i64 i1)] h).bind fun r7 =>
  gI .i64 (some r7.1) true fun i7 =>
  some ((.int .i64 i7), r7.2)
  ) := by kernel_rfl
theorem cf14 : cFn Try.prog 14 = some c14 := by kernel_rfl
theorem e14 (i0 : Int) (i1 : Int) (h : Heap) : E 14 [(.int .i64 i0), (.int .i64 i1)] h = (
  (E 37 [(.int .i64 i0), (.int .i64 i1)] h).bind fun r7 =>
  gI .i64 (some r7.1) true fun i7 =>
  some ((.int .i64 i7), r7.2)
  ) := (EV_eq (P := Try.prog) (T := T0) rfl cf14 [(.int .i64 i0), (.int .i64 i1)] h).trans (r14 mk0 E i0 i1 h)
def k37x6 : AC := .ret
def k37x5 : AC := .seq (.mask 16) k37x6
def k37x4 : AC := .mask 1
def k37x3 : AC := .seq (.cond (.tmp 9)
   (.seq (.ops false [
      ⟨(some 10), .move (.tmp 0), none, []⟩,
      ⟨(some 11), .move (.tmp 1), none, []⟩,
      ⟨(some 12), .bin .other .add (.tmp 10) (.tmp 11), none, []⟩,
      ⟨(some 4), .move (.tmp 12), none, []⟩]) k37x5)
   (.skip)) k37x4
def k37x8 : AC := .ret
def k37x7 : AC := .seq (.mask 16) k37x8
def k37x2 : AC := .seq (.ops false [
    ⟨(some 13), .move (.tmp 0), none, []⟩,
    ⟨(some 4), .move (.tmp 13), none, []⟩]) k37x7
def k37x1 : AC := .seq (.seq (.ops false [
    ⟨(some 8), .move (.tmp 0), none, []⟩,
    ⟨(some 9), .bin .other .lss (.tmp 8) (.c (.int .i64 0)), none, []⟩]) k37x3) k37x2
def k37x0 : AC := .seq (.ops false [
    ⟨(some 5), .move (.tmp 0), none, []⟩,
    ⟨(some 6), .move (.tmp 1), none, []⟩,
    ⟨(some 7), .bin .other .rem (.tmp 5) (.tmp 6), none, []⟩,
    ⟨(some 0), .move (.tmp 7), none, []⟩]) k37x1
/-- provenance/provenanceref4.modulo -/
def c37 : AFn := ⟨14, [.tmp 4],
  .seq (.ops false [
    ⟨(some 4), .move (.c (.int .i64 0)), none, []⟩]) k37x0⟩
theorem r37 (i0 : Int) (i1 : Int) (h : Heap) : runE M C c37 [(.int .i64 i0), (.int .i64 i1)] h = (
  chk (true = true → (i1 : Int) ≠ 0) <|
  letK ((Int.tmod i0 i1) : Int) fun i7 =>
  letK ((decide ((i7 : Int) < 0)) : Bool) fun b9 =>
  if b9 = true then
    (
    letK ((IntKind.wrap .i64 (i7 + i1)) : Int) fun i12 =>
    some ((.int .i64 i12), h)
    )
  else
    (
    some ((.int .i64 i7), h)
    )
  ) := by kernel_rfl
theorem cf37 : cFn Try.prog 37 = some c37 := by kernel_rfl
theorem e37 (i0 : Int) (i1 : Int) (h : Heap) : E 37 [(.int .i64 i0), (.int .i64 i1)] h = (
  chk (true = true → (i1 : Int) ≠ 0) <|
  letK ((Int.tmod i0 i1) : Int) fun i7 =>
  letK ((decide ((i7 : Int) < 0)) : Bool) fun b9 =>
  if b9 = true then
    (
    letK ((IntKind.wrap .i64 (i7 + i1)) : Int) fun i12 =>
    some ((.int .i64 i12), h)
    )
  else
    (
    some ((.int .i64 i7), h)
    )
  ) := (EV_eq (P := Try.prog) (T := T0) rfl cf37 [(.int .i64 i0), (.int .i64 i1)] h).trans (r37 mk0 E i0 i1 h)
def k18x5 : AC := .ret
def k18x4 : AC := .seq (.mask 12) k18x5
def k18x3 : AC := .mask 1
def k18x2 : AC := .seq (.cond (.tmp 11)
   (.seq (.ops false [
      ⟨(some 2), .move (.c (.ptr none)), none, []⟩,
      ⟨(some 3), .move (.c (.int .i64 4)), none, []⟩]) k18x4)
   (.skip)) k18x3
def k18x14 : AC := .exit 0
def k18x13 : AC := .mask 3145744
def k18x17 : AC := .ops false [
    ⟨(some 24), .move (.tmp 4), none, []⟩,
    ⟨(some 25), .nilCheck (.tmp 24), none, []⟩,
    ⟨(some 26), .fieldAddr 0 (.tmp 25), none, []⟩,
    ⟨(some 27), .load (.cell .sl) (.tmp 26), none, []⟩,
    ⟨(some 28), .move (.tmp 5), none, []⟩,
    ⟨(some 29), .indexAddr 1 (.tmp 27) (.tmp 28), none, []⟩,
    ⟨none, .store 1 (.tmp 29) (.c (.int .i64 1)), none, []⟩]
def k18x16 : AC := .mask 3145744
def k18x15 : AC := .ops false [
    ⟨(some 30), .bin .other .add (.tmp 21) (.c (.int .i64 1)), none, []⟩,
    ⟨(some 21), .move (.tmp 30), none, []⟩]
def k18x12 : AC := .seq (.seq (.block 1 (.seq (.ops false [
     ⟨(some 23), .move (.tmp 21), none, []⟩,
     ⟨(some 5), .move (.tmp 23), none, []⟩]) k18x17)) k18x16) k18x15
def k18x11 : AC := .seq (.seq (.cond (.tmp 22)
   (.skip)
   (.seq (.mask 16) k18x14)) k18x13) k18x12
def k18x10 : AC := .seq (.ops false [
    ⟨(some 22), .bin .other .lss (.tmp 21) (.tmp 20), none, []⟩]) k18x11
def k18x9 : AC := .mask 16
def k18x8 : AC := .seq (.block 0 (.loop 3145744 16 k18x10)) k18x9
def k18x19 : AC := .ret
def k18x18 : AC := .seq (.mask 12) k18x19
def k18x7 : AC := .seq (.ops false [
    ⟨(some 31), .move (.tmp 4), none, []⟩,
    ⟨(some 2), .move (.tmp 31), none, []⟩,
    ⟨(some 3), .move (.c (.int .i64 0)), none, []⟩]) k18x18
def k18x6 : AC := .seq (.seq (.ops false [
    ⟨(some 16), .move (.tmp 4), none, []⟩,
    ⟨(some 17), .nilCheck (.tmp 16), none, []⟩,
    ⟨(some 18), .fieldAddr 0 (.tmp 17), none, []⟩,
    ⟨(some 19), .load (.cell .sl) (.tmp 18), none, []⟩,
    ⟨(some 20), .lenSl (.tmp 19), none, []⟩,
    ⟨(some 21), .move (.c (.int .i64 0)), none, []⟩]) k18x8) k18x7
def k18x1 : AC := .seq (.ops false [
    ⟨(some 12), .move (.tmp 0), none, []⟩,
    ⟨(some 13), .makeSl [(.int .i64 0)] 8 (.tmp 12) (.tmp 12), none, []⟩,
    ⟨(some 14), .build [(.sl .nil 0), (.int .i64 0)] [(0, 1, (.tmp 13))], none, []⟩,
    ⟨(some 15), .boxH (.tmp 14), none, []⟩,
    ⟨(some 4), .move (.tmp 15), none, []⟩]) k18x6
def k18x0 : AC := .seq (.seq (.ops true [
    ⟨(some 6), .move (.tmp 0), none, []⟩,
    ⟨(some 7), .bin .other .lss (.tmp 6) (.c (.int .i64 1)), none, []⟩,
    ⟨(some 8), .move (.tmp 7), none, []⟩,
    ⟨(some 9), .move (.tmp 0), (some (8, false)), []⟩,
    ⟨(some 10), .bin .other .gtr (.tmp 9) (.c (.int .i64 1024)), (some (8, false)), []⟩,
    ⟨(some 11), .pick (.tmp 8) (.c (.bool true)) (.tmp 10), none, []⟩]) k18x2) k18x1
/-- provenance/predict.New -/
def c18 : AFn := ⟨32, [.tmp 2, .tmp 3],
  .seq (.ops false [
    ⟨(some 2), .move (.c (.ptr none)), none, []⟩,
    ⟨(some 3), .move (.c (.int .i64 0)), none, []⟩]) k18x0⟩
def S18xe0 (p4 : Option Ad) (h : Heap) : St := ⟨(rep 4 (.g [] true (.ptr p4) :: (rep 27 []))), h⟩
noncomputable def Q18x10 : Kont (AV × Heap) := (blockQ 0 (seqQ (evalE M C k18x9) (seqQ (evalE M C k18x7) (endQ [.tmp 2, .tmp 3]))))
noncomputable def L18x10 (p4 : Option Ad) (i20 : Int) (i21 : Int) (h : Heap) (Q : Kont R) : Option R := loopE (evalE M C k18x10) 3145744 16 ⟨(rep 4 (.g [] true (.ptr p4) :: (rep 15 (.g [] true (.int .i64 i20) :: (.g [] true (.int .i64 i21) :: (rep 10 [])))))), h⟩ Q
theorem r18 (i0 : Int) (h : Heap) : runE M C c18 [(.int .i64 i0)] h = (
  letK ((decide ((i0 : Int) < 1)) : Bool) fun b7 =>
  letK ((decide ((1024 : Int) < i0)) : Bool) fun b10 =>
  letK ((if b7 = true then true else b10) : Bool) fun b11 =>
  if b11 = true then
    (
    some (.tup [(.ptr none), (.int .i64 4)], h)
    )
  else
    (
    chk ((0 : Int) ≤ i0 ∧ (i0 : Int) ≤ i0 ∧ i0 * ((8 : Nat) : Int) ≤ 70368744177664) <|
    newK h (.cells (repl (Int.toNat i0) [(.int .i64 0)]) (.grow 1) 0) fun h_2 =>
    newK h_2 (.cells [(.sl (.pos ⟨List.length h, 0, 0⟩) (Int.toNat i0)), (.int .i64 0)] .fix 0) fun h_3 =>
    gL (ld1 h_3 (Ad.add ⟨List.length h_2, 0, 0⟩ 0)) true fun s19 n19 =>
    L18x10 M C (some ⟨List.length h_2, 0, 0⟩) ((n19 : Nat) : Int) 0 h_3 (Q18x10 M C)
    )
  ) := by kernel_rfl
theorem cf18 : cFn Try.prog 18 = some c18 := by kernel_rfl
theorem e18 (i0 : Int) (h : Heap) : E 18 [(.int .i64 i0)] h = (
  letK ((decide ((i0 : Int) < 1)) : Bool) fun b7 =>
  letK ((decide ((1024 : Int) < i0)) : Bool) fun b10 =>
  letK ((if b7 = true then true else b10) : Bool) fun b11 =>
  if b11 = true then
    (
    some (.tup [(.ptr none), (.int .i64 4)], h)
    )
  else
    (
    chk ((0 : Int) ≤ i0 ∧ (i0 : Int) ≤ i0 ∧ i0 * ((8 : Nat) : Int) ≤ 70368744177664) <|
    newK h (.cells (repl (Int.toNat i0) [(.int .i64 0)]) (.grow 1) 0) fun h_2 =>
    newK h_2 (.cells [(.sl (.pos ⟨List.length h, 0, 0⟩) (Int.toNat i0)), (.int .i64 0)] .fix 0) fun h_3 =>
    gL (ld1 h_3 (Ad.add ⟨List.length h_2, 0, 0⟩ 0)) true fun s19 n19 =>
    L18x10 mk0 E (some ⟨List.length h_2, 0, 0⟩) ((n19 : Nat) : Int) 0 h_3 (Q18x10 mk0 E)
    )
  ) := (EV_eq (P := Try.prog) (T := T0) rfl cf18 [(.int .i64 i0)] h).trans (r18 mk0 E i0 h)
theorem L18x10xaux (p4 : Option Ad) (i20 : Int) (i21 : Int) (h : Heap) (Q : Kont R) : (restrF 3145744 ⟨(rep 4 (.g [] true (.ptr p4) :: (rep 15 (.g [] true (.int .i64 i20) :: (.g [] true (.int .i64 i21) :: (rep 10 [])))))), h⟩ fun σ => evalE M C k18x10 σ (roundQ M C k18x10 3145744 16 Q)) = (
  letK ((decide ((i21 : Int) < i20)) : Bool) fun b22 =>
  if b22 = true then
    (
    atP p4 true fun a25 =>
    gL (ld1 h (Ad.add a25 0)) true fun s27 n27 =>
    chk (true = true → (0 : Int) ≤ i21 ∧ (i21 : Int) < ((n27 : Nat) : Int)) <|
    atP (adP s27) true fun a29 =>
    (st1 h (Ad.add a29 (Int.toNat i21 * 1)) (.int .i64 1)).bind fun h_2 =>
    letK ((IntKind.wrap .i64 (i21 + 1)) : Int) fun i30 =>
    L18x10 M C p4 i20 i30 h_2 Q
    )
  else
    (
    Q (.exit 0) (S18xe0 p4 h)
    )
  ) := by kernel_rfl
theorem L18x10xeq (p4 : Option Ad) (i20 : Int) (i21 : Int) (h : Heap) (Q : Kont R) : L18x10 mk0 C p4 i20 i21 h Q = (
  letK ((decide ((i21 : Int) < i20)) : Bool) fun b22 =>
  if b22 = true then
    (
    atP p4 true fun a25 =>
    gL (ld1 h (Ad.add a25 0)) true fun s27 n27 =>
    chk (true = true → (0 : Int) ≤ i21 ∧ (i21 : Int) < ((n27 : Nat) : Int)) <|
    atP (adP s27) true fun a29 =>
    (st1 h (Ad.add a29 (Int.toNat i21 * 1)) (.int .i64 1)).bind fun h_2 =>
    letK ((IntKind.wrap .i64 (i21 + 1)) : Int) fun i30 =>
    L18x10 mk0 C p4 i20 i30 h_2 Q
    )
  else
    (
    Q (.exit 0) (S18xe0 p4 h)
    )
  ) := loop_eqn C k18x10 3145744 16 (rep 4 (.g [] true (.ptr p4) :: (rep 15 (.g [] true (.int .i64 i20) :: (.g [] true (.int .i64 i21) :: (rep 10 [])))))) h Q (by kernel_rfl) (L18x10xaux mk0 C p4 i20 i21 h Q)
theorem X18x10xe0 (p4 : Option Ad) (h : Heap) : Q18x10 M C (.exit 0) (S18xe0 p4 h) = (
  some (.tup [(.ptr p4), (.int .i64 0)], h)
  ) := by kernel_rfl
def k19x6 : AC := .ret
def k19x5 : AC := .seq (.mask 192) k19x6
def k19x4 : AC := .mask 263
def k19x3 : AC := .seq (.cond (.tmp 18)
   (.seq (.ops false [
      ⟨(some 19), .move (.tmp 9), none, []⟩,
      ⟨(some 6), .move (.c (.bool false)), none, []⟩,
      ⟨(some 7), .move (.tmp 19), none, []⟩]) k19x5)
   (.skip)) k19x4
def k19x11 : AC := .join 261
def k19x10 : AC := .seq (.cond (.tmp 39)
   (.ops false [
      ⟨(some 41), .move (.tmp 10), none, []⟩,
      ⟨(some 42), .move (.tmp 10), none, []⟩,
      ⟨(some 43), .nilCheck (.tmp 42), none, []⟩,
      ⟨(some 44), .load (.cell (.int .i64)) (.tmp 43), none, []⟩,
      ⟨(some 45), .bin .other .add (.tmp 44) (.c (.int .i64 1)), none, []⟩,
      ⟨(some 46), .mm false [(.tmp 45), (.c (.int .i64 3))], none, []⟩,
      ⟨(some 47), .nilCheck (.tmp 41), none, []⟩,
      ⟨none, .store 1 (.tmp 47) (.tmp 46), none, []⟩])
   (.ops false [
      ⟨(some 32), .move (.tmp 10), none, []⟩,
      ⟨(some 33), .move (.tmp 10), none, []⟩,
      ⟨(some 34), .nilCheck (.tmp 33), none, []⟩,
      ⟨(some 35), .load (.cell (.int .i64)) (.tmp 34), none, []⟩,
      ⟨(some 36), .bin .other .sub (.tmp 35) (.c (.int .i64 1)), none, []⟩,
      ⟨(some 37), .mm true [(.tmp 36), (.c (.int .i64 0))], none, []⟩,
      ⟨(some 38), .nilCheck (.tmp 32), none, []⟩,
      ⟨none, .store 1 (.tmp 38) (.tmp 37), none, []⟩])) k19x11
def k19x9 : AC := .mask 261
def k19x15 : AC := .join 260
def k19x14 : AC := .seq (.cond (.tmp 50)
   (.ops false [
      ⟨(some 51), .move (.tmp 0), none, []⟩,
      ⟨(some 52), .nilCheck (.tmp 51), none, []⟩,
      ⟨(some 53), .fieldAddr 1 (.tmp 52), none, []⟩,
      ⟨(some 54), .load (.cell (.int .i64)) (.tmp 53), none, []⟩,
      ⟨(some 55), .bin .other .add (.tmp 54) (.c (.int .i64 1)), none, []⟩,
      ⟨(some 56), .nilCheck (.tmp 51), none, []⟩,
      ⟨(some 57), .fieldAddr 1 (.tmp 56), none, []⟩,
      ⟨none, .store 1 (.tmp 57) (.tmp 55), none, []⟩])
   (.skip)) k19x15
def k19x18 : AC := .ret
def k19x17 : AC := .seq (.mask 192) k19x18
def k19x13 : AC := .seq (.ops false [
    ⟨(some 58), .move (.tmp 8), none, []⟩,
    ⟨(some 59), .move (.tmp 2), none, []⟩,
    ⟨(some 60), .bin .bool .neq (.tmp 58) (.tmp 59), none, []⟩,
    ⟨(some 6), .move (.tmp 60), none, []⟩,
    ⟨(some 7), .move (.c (.int .i64 0)), none, []⟩]) k19x17
def k19x8 : AC := .seq (.seq (.ops false [
    ⟨(some 48), .move (.tmp 8), none, []⟩,
    ⟨(some 49), .move (.tmp 2), none, []⟩,
    ⟨(some 50), .bin .bool .neq (.tmp 48) (.tmp 49), none, []⟩]) k19x14) k19x13
def k19x7 : AC := .seq (.seq (.block 0 (.seq (.ops false [
     ⟨(some 40), .move (.tmp 2), none, []⟩,
     ⟨(some 39), .move (.tmp 40), none, []⟩]) k19x10)) k19x9) k19x8
def k19x2 : AC := .seq (.ops false [
    ⟨(some 20), .move (.tmp 0), none, []⟩,
    ⟨(some 21), .nilCheck (.tmp 20), none, []⟩,
    ⟨(some 22), .fieldAddr 0 (.tmp 21), none, []⟩,
    ⟨(some 23), .load (.cell .sl) (.tmp 22), none, []⟩,
    ⟨(some 24), .move (.tmp 1), none, []⟩,
    ⟨(some 25), .move (.tmp 0), none, []⟩,
    ⟨(some 26), .nilCheck (.tmp 25), none, []⟩,
    ⟨(some 27), .fieldAddr 0 (.tmp 26), none, []⟩,
    ⟨(some 28), .load (.cell .sl) (.tmp 27), none, []⟩,
    ⟨(some 29), .lenSl (.tmp 28), none, []⟩,
    ⟨(some 30), .bin .other .rem (.tmp 24) (.tmp 29), none, []⟩,
    ⟨(some 31), .indexAddr 1 (.tmp 23) (.tmp 30), none, []⟩,
    ⟨(some 10), .move (.tmp 31), none, []⟩]) k19x7
def k19x1 : AC := .seq (.seq (.ops false [
    ⟨(some 17), .move (.tmp 9), none, []⟩,
    ⟨(some 18), .bin .other .neq (.tmp 17) (.c (.int .i64 0)), none, []⟩]) k19x3) k19x2
def k19x0 : AC := .seq (.ops false [
    ⟨(some 12), .move (.tmp 0), none, []⟩,
    ⟨(some 13), .move (.tmp 1), none, []⟩,
    ⟨(some 14), .call 20 [(.tmp 12), (.tmp 13)] [(.cell .bool), (.cell (.int .i64))] .opq, none, []⟩,
    ⟨(some 11), .move (.tmp 14), none, []⟩,
    ⟨(some 15), .extract (.tmp 11) 0, none, []⟩,
    ⟨(some 16), .extract (.tmp 11) 1, none, []⟩,
    ⟨(some 8), .move (.tmp 15), none, []⟩,
    ⟨(some 9), .move (.tmp 16), none, []⟩]) k19x1
/-- (*provenance/predict.Predictor).Update -/
def c19 : AFn := ⟨61, [.tmp 6, .tmp 7],
  .seq (.ops false [
    ⟨(some 6), .move (.c (.bool false)), none, []⟩,
    ⟨(some 7), .move (.c (.int .i64 0)), none, []⟩]) k19x0⟩
noncomputable def J19x12 (p0 : Option Ad) (b2 : Bool) (b8 : Bool) (h : Heap) : Res := M (AV × Heap) (blockQ 0 (seqQ (evalE M C k19x9) (seqQ (evalE M C k19x8) (endQ [.tmp 6, .tmp 7])))) (.g [] true (.ptr p0) :: (.any :: (.g [] true (.bool b2) :: (rep 5 (.g [] true (.bool b8) :: (rep 52 [])))))) h
noncomputable def J19x16 (b2 : Bool) (b8 : Bool) (h : Heap) : Res := M (AV × Heap) (seqQ (evalE M C k19x13) (endQ [.tmp 6, .tmp 7])) (.any :: .any :: (.g [] true (.bool b2) :: (rep 5 (.g [] true (.bool b8) :: (rep 52 []))))) h
theorem r19 (p0 : Option Ad) (i1 : Int) (b2 : Bool) (h : Heap) : runE M C c19 [(.ptr p0), (.int .i64 i1), (.bool b2)] h = (
  (C 20 [(.ptr p0), (.int .i64 i1)] h).bind fun r14 =>
  gT 2 r14.1 true fun u14 =>
  gB (some (List.getD u14 0 .opq)) true fun b14x0 =>
  gI .i64 (some (List.getD u14 1 .opq)) true fun i14x1 =>
  letK ((!decide ((i14x1 : Int) = 0)) : Bool) fun b18 =>
  if b18 = true then
    (
    some (.tup [(.bool false), (.int .i64 i14x1)], r14.2)
    )
  else
    (
    atP p0 true fun a21 =>
    gL (ld1 r14.2 (Ad.add a21 0)) true fun s23 n23 =>
    atP p0 true fun a26 =>
    gL (ld1 r14.2 (Ad.add a26 0)) true fun s28 n28 =>
    chk (true = true → (((n28 : Nat) : Int) : Int) ≠ 0) <|
    letK ((Int.tmod i1 ((n28 : Nat) : Int)) : Int) fun i30 =>
    chk (true = true → (0 : Int) ≤ i30 ∧ (i30 : Int) < ((n23 : Nat) : Int)) <|
    atP (adP s23) true fun a31 =>
    if b2 = true then
      (
      gI .i64 (ld1 r14.2 (Ad.add a31 (Int.toNat i30 * 1))) true fun i44 =>
      letK ((IntKind.wrap .i64 (i44 + 1)) : Int) fun i45 =>
      letK ((foldMM false i45 [3]) : Int) fun i46 =>
      (st1 r14.2 (Ad.add a31 (Int.toNat i30 * 1)) (.int .i64 i46)).bind fun h_2 =>
      J19x12 M C p0 b2 b14x0 h_2
      )
    else
      (
      gI .i64 (ld1 r14.2 (Ad.add a31 (Int.toNat i30 * 1))) true fun i35 =>
      letK ((IntKind.wrap .i64 (i35 - 1)) : Int) fun i36 =>
      letK ((foldMM true i36 [0]) : Int) fun i37 =>
      (st1 r14.2 (Ad.add a31 (Int.toNat i30 * 1)) (.int .i64 i37)).bind fun h_2 =>
      J19x12 M C p0 b2 b14x0 h_2
      )
    )
  ) := by kernel_rfl
theorem cf19 : cFn Try.prog 19 = some c19 := by kernel_rfl
theorem e19 (p0 : Option Ad) (i1 : Int) (b2 : Bool) (h : Heap) : E 19 [(.ptr p0), (.int .i64 i1), (.bool b2)] h = (
  (E 20 [(.ptr p0), (.int .i64 i1)] h).bind fun r14 =>
  gT 2 r14.1 true fun u14 =>
  gB (some (List.getD u14 0 .opq)) true fun b14x0 =>
  gI .i64 (some (List.getD u14 1 .opq)) true fun i14x1 =>
  letK ((!decide ((i14x1 : Int) = 0)) : Bool) fun b18 =>
  if b18 = true then
    (
    some (.tup [(.bool false), (.int .i64 i14x1)], r14.2)
    )
  else
    (
    atP p0 true fun a21 =>
    gL (ld1 r14.2 (Ad.add a21 0)) true fun s23 n23 =>
    atP p0 true fun a26 =>
    gL (ld1 r14.2 (Ad.add a26 0)) true fun s28 n28 =>
    chk (true = true → (((n28 : Nat) : Int) : Int) ≠ 0) <|
    letK ((Int.tmod i1 ((n28 : Nat) : Int)) : Int) fun i30 =>
    chk (true = true → (0 : Int) ≤ i30 ∧ (i30 : Int) < ((n23 : Nat) : Int)) <|
    atP (adP s23) true fun a31 =>
    if b2 = true then
      (
      gI .i64 (ld1 r14.2 (Ad.add a31 (Int.toNat i30 * 1))) true fun i44 =>
      letK ((IntKind.wrap .i64 (i44 + 1)) : Int) fun i45 =>
      letK ((foldMM false i45 [3]) : Int) fun i46 =>
      (st1 r14.2 (Ad.add a31 (Int.toNat i30 * 1)) (.int .i64 i46)).bind fun h_2 =>
      J19x12 mk0 E p0 b2 b14x0 h_2
      )
    else
      (
      gI .i64 (ld1 r14.2 (Ad.add a31 (Int.toNat i30 * 1))) true fun i35 =>
      letK ((IntKind.wrap .i64 (i35 - 1)) : Int) fun i36 =>
      letK ((foldMM true i36 [0]) : Int) fun i37 =>
      (st1 r14.2 (Ad.add a31 (Int.toNat i30 * 1)) (.int .i64 i37)).bind fun h_2 =>
      J19x12 mk0 E p0 b2 b14x0 h_2
      )
    )
  ) := (EV_eq (P := Try.prog) (T := T0) rfl cf19 [(.ptr p0), (.int .i64 i1), (.bool b2)] h).trans (r19 mk0 E p0 i1 b2 h)
theorem J19x12xaux (p0 : Option Ad) (b2 : Bool) (b8 : Bool) (h : Heap) : (forceK tk (.g [] true (.ptr p0) :: (.any :: (.g [] true (.bool b2) :: (rep 5 (.g [] true (.bool b8) :: (rep 52 [])))))) fun e => (blockQ 0 (seqQ (evalE M C k19x9) (seqQ (evalE M C k19x8) (endQ [.tmp 6, .tmp 7])))) .normal ⟨e, h⟩) = (
  if (!(b8 == b2)) = true then
    (
    atP p0 true fun a52 =>
    gI .i64 (ld1 h (Ad.add a52 1)) true fun i54 =>
    letK ((IntKind.wrap .i64 (i54 + 1)) : Int) fun i55 =>
    atP p0 true fun a56 =>
    (st1 h (Ad.add a56 1) (.int .i64 i55)).bind fun h_2 =>
    J19x16 M C b2 b8 h_2
    )
  else
    (
    J19x16 M C b2 b8 h
    )
  ) := by kernel_rfl
theorem J19x12xeq (p0 : Option Ad) (b2 : Bool) (b8 : Bool) (h : Heap) : J19x12 mk0 C p0 b2 b8 h = (
  if (!(b8 == b2)) = true then
    (
    atP p0 true fun a52 =>
    gI .i64 (ld1 h (Ad.add a52 1)) true fun i54 =>
    letK ((IntKind.wrap .i64 (i54 + 1)) : Int) fun i55 =>
    atP p0 true fun a56 =>
    (st1 h (Ad.add a56 1) (.int .i64 i55)).bind fun h_2 =>
    J19x16 mk0 C b2 b8 h_2
    )
  else
    (
    J19x16 mk0 C b2 b8 h
    )
  ) := join_eqn (blockQ 0 (seqQ (evalE mk0 C k19x9) (seqQ (evalE mk0 C k19x8) (endQ [.tmp 6, .tmp 7])))) (.g [] true (.ptr p0) :: (.any :: (.g [] true (.bool b2) :: (rep 5 (.g [] true (.bool b8) :: (rep 52 [])))))) h (J19x12xaux mk0 C p0 b2 b8 h)
theorem J19x16xaux (b2 : Bool) (b8 : Bool) (h : Heap) : (forceK tk (.any :: .any :: (.g [] true (.bool b2) :: (rep 5 (.g [] true (.bool b8) :: (rep 52 []))))) fun e => (seqQ (evalE M C k19x13) (endQ [.tmp 6, .tmp 7])) .normal ⟨e, h⟩) = (
  some (.tup [(.bool (!(b8 == b2))), (.int .i64 0)], h)
  ) := by kernel_rfl
theorem J19x16xeq (b2 : Bool) (b8 : Bool) (h : Heap) : J19x16 mk0 C b2 b8 h = (
  some (.tup [(.bool (!(b8 == b2))), (.int .i64 0)], h)
  ) := join_eqn (seqQ (evalE mk0 C k19x13) (endQ [.tmp 6, .tmp 7])) (.any :: .any :: (.g [] true (.bool b2) :: (rep 5 (.g [] true (.bool b8) :: (rep 52 []))))) h (J19x16xaux mk0 C b2 b8 h)
def k20x5 : AC := .ret
def k20x4 : AC := .seq (.mask 48) k20x5
def k20x3 : AC := .mask 3
def k20x2 : AC := .seq (.cond (.tmp 11)
   (.seq (.ops false [
      ⟨(some 4), .move (.c (.bool false)), none, []⟩,
      ⟨(some 5), .move (.c (.int .i64 4)), none, []⟩]) k20x4)
   (.skip)) k20x3
def k20x7 : AC := .ret
def k20x6 : AC := .seq (.mask 48) k20x7
def k20x1 : AC := .seq (.ops false [
    ⟨(some 12), .move (.tmp 0), none, []⟩,
    ⟨(some 13), .nilCheck (.tmp 12), none, []⟩,
    ⟨(some 14), .fieldAddr 0 (.tmp 13), none, []⟩,
    ⟨(some 15), .load (.cell .sl) (.tmp 14), none, []⟩,
    ⟨(some 16), .move (.tmp 1), none, []⟩,
    ⟨(some 17), .move (.tmp 0), none, []⟩,
    ⟨(some 18), .nilCheck (.tmp 17), none, []⟩,
    ⟨(some 19), .fieldAddr 0 (.tmp 18), none, []⟩,
    ⟨(some 20), .load (.cell .sl) (.tmp 19), none, []⟩,
    ⟨(some 21), .lenSl (.tmp 20), none, []⟩,
    ⟨(some 22), .bin .other .rem (.tmp 16) (.tmp 21), none, []⟩,
    ⟨(some 23), .indexAddr 1 (.tmp 15) (.tmp 22), none, []⟩,
    ⟨(some 24), .load (.cell (.int .i64)) (.tmp 23), none, []⟩,
    ⟨(some 25), .bin .other .geq (.tmp 24) (.c (.int .i64 2)), none, []⟩,
    ⟨(some 4), .move (.tmp 25), none, []⟩,
    ⟨(some 5), .move (.c (.int .i64 0)), none, []⟩]) k20x6
def k20x0 : AC := .seq (.seq (.ops true [
    ⟨(some 6), .move (.tmp 1), none, []⟩,
    ⟨(some 7), .bin .other .lss (.tmp 6) (.c (.int .i64 0)), none, []⟩,
    ⟨(some 8), .move (.tmp 7), none, []⟩,
    ⟨(some 9), .move (.tmp 1), (some (8, false)), []⟩,
    ⟨(some 10), .bin .other .geq (.tmp 9) (.c (.int .i64 16384)), (some (8, false)), []⟩,
    ⟨(some 11), .pick (.tmp 8) (.c (.bool true)) (.tmp 10), none, []⟩]) k20x2) k20x1
/-- (*provenance/predict.Predictor).Taken -/
def c20 : AFn := ⟨26, [.tmp 4, .tmp 5],
  .seq (.ops false [
    ⟨(some 4), .move (.c (.bool false)), none, []⟩,
    ⟨(some 5), .move (.c (.int .i64 0)), none, []⟩]) k20x0⟩
theorem r20 (p0 : Option Ad) (i1 : Int) (h : Heap) : runE M C c20 [(.ptr p0), (.int .i64 i1)] h = (
  letK ((decide ((i1 : Int) < 0)) : Bool) fun b7 =>
  letK ((decide ((16384 : Int) ≤ i1)) : Bool) fun b10 =>
  letK ((if b7 = true then true else b10) : Bool) fun b11 =>
  if b11 = true then
    (
    some (.tup [(.bool false), (.int .i64 4)], h)
    )
  else
    (
    atP p0 true fun a13 =>
    gL (ld1 h (Ad.add a13 0)) true fun s15 n15 =>
    atP p0 true fun a18 =>
    gL (ld1 h (Ad.add a18 0)) true fun s20 n20 =>
    chk (true = true → (((n20 : Nat) : Int) : Int) ≠ 0) <|
    letK ((Int.tmod i1 ((n20 : Nat) : Int)) : Int) fun i22 =>
    chk (true = true → (0 : Int) ≤ i22 ∧ (i22 : Int) < ((n15 : Nat) : Int)) <|
    atP (adP s15) true fun a23 =>
    gI .i64 (ld1 h (Ad.add a23 (Int.toNat i22 * 1))) true fun i24 =>
    letK ((decide ((2 : Int) ≤ i24)) : Bool) fun b25 =>
    some (.tup [(.bool b25), (.int .i64 0)], h)
    )
  ) := by kernel_rfl
theorem cf20 : cFn Try.prog 20 = some c20 := by kernel_rfl
theorem e20 (p0 : Option Ad) (i1 : Int) (h : Heap) : E 20 [(.ptr p0), (.int .i64 i1)] h = (
  letK ((decide ((i1 : Int) < 0)) : Bool) fun b7 =>
  letK ((decide ((16384 : Int) ≤ i1)) : Bool) fun b10 =>
  letK ((if b7 = true then true else b10) : Bool) fun b11 =>
  if b11 = true then
    (
    some (.tup [(.bool false), (.int .i64 4)], h)
    )
  else
    (
    atP p0 true fun a13 =>
    gL (ld1 h (Ad.add a13 0)) true fun s15 n15 =>
    atP p0 true fun a18 =>
    gL (ld1 h (Ad.add a18 0)) true fun s20 n20 =>
    chk (true = true → (((n20 : Nat) : Int) : Int) ≠ 0) <|
    letK ((Int.tmod i1 ((n20 : Nat) : Int)) : Int) fun i22 =>
    chk (true = true → (0 : Int) ≤ i22 ∧ (i22 : Int) < ((n15 : Nat) : Int)) <|
    atP (adP s15) true fun a23 =>
    gI .i64 (ld1 h (Ad.add a23 (Int.toNat i22 * 1))) true fun i24 =>
    letK ((decide ((2 : Int) ≤ i24)) : Bool) fun b25 =>
    some (.tup [(.bool b25), (.int .i64 0)], h)
    )
  ) := (EV_eq (P := Try.prog) (T := T0) rfl cf20 [(.ptr p0), (.int .i64 i1)] h).trans (r20 mk0 E p0 i1 h)
def k21x2 : AC := .ret
def k21x1 : AC := .seq (.mask 4) k21x2
def k21x0 : AC := .seq (.ops false [
    ⟨(some 3), .move (.tmp 0), none, []⟩,
    ⟨(some 4), .nilCheck (.tmp 3), none, []⟩,
    ⟨(some 5), .fieldAddr 1 (.tmp 4), none, []⟩,
    ⟨(some 6), .load (.cell (.int .i64)) (.tmp 5), none, []⟩,
    ⟨(some 2), .move (.tmp 6), none, []⟩]) k21x1
/-- (*provenance/predict.Predictor).Wrong -/
def c21 : AFn := ⟨7, [.tmp 2],
  .seq (.ops false [
    ⟨(some 2), .move (.c (.int .i64 0)), none, []⟩]) k21x0⟩
theorem r21 (p0 : Option Ad) (h : Heap) : runE M C c21 [(.ptr p0)] h = (
  atP p0 true fun a4 =>
  gI .i64 (ld1 h (Ad.add a4 1)) true fun i6 =>
  some ((.int .i64 i6), h)
  ) := by kernel_rfl
theorem cf21 : cFn Try.prog 21 = some c21 := by kernel_rfl
theorem e21 (p0 : Option Ad) (h : Heap) : E 21 [(.ptr p0)] h = (
  atP p0 true fun a4 =>
  gI .i64 (ld1 h (Ad.add a4 1)) true fun i6 =>
  some ((.int .i64 i6), h)
  ) := (EV_eq (P := Try.prog) (T := T0) rfl cf21 [(.ptr p0)] h).trans (r21 mk0 E p0 h)
def k4x6 : AC := .ret
def k4x5 : AC := .seq (.mask 256) k4x6
def k4x4 : AC := .mask 526
def k4x3 : AC := .seq (.cond (.tmp 27)
   (.seq (.ops false [
      ⟨(some 8), .move (.c (.bool false)), none, []⟩]) k4x5)
   (.skip)) k4x4
def k4x15 : AC := .exit 0
def k4x14 : AC := .mask 12884902406
def k4x22 : AC := .ret
def k4x21 : AC := .seq (.mask 256) k4x22
def k4x20 : AC := .mask 12884902406
def k4x19 : AC := .seq (.cond (.tmp 43)
   (.seq (.ops false [
      ⟨(some 8), .move (.c (.bool false)), none, []⟩]) k4x21)
   (.skip)) k4x20
def k4x18 : AC := .seq (.ops false [
    ⟨(some 42), .move (.tmp 12), none, []⟩,
    ⟨(some 43), .bin .other .neq (.tmp 42) (.c (.int .i64 0)), none, []⟩]) k4x19
def k4x17 : AC := .mask 12884902406
def k4x16 : AC := .ops false [
    ⟨(some 44), .bin .other .add (.tmp 33) (.c (.int .i64 1)), none, []⟩,
    ⟨(some 33), .move (.tmp 44), none, []⟩]
def k4x13 : AC := .seq (.seq (.block 1 (.seq (.ops false [
     ⟨(some 36), .move (.tmp 9), none, []⟩,
     ⟨(some 37), .move (.tmp 1), none, []⟩,
     ⟨(some 38), .move (.tmp 2), none, []⟩,
     ⟨(some 39), .call 19 [(.tmp 36), (.tmp 37), (.tmp 38)] [(.cell .bool), (.cell (.int .i64))] .opq, none, []⟩,
     ⟨(some 35), .move (.tmp 39), none, []⟩,
     ⟨(some 40), .extract (.tmp 35) 0, none, []⟩,
     ⟨(some 41), .extract (.tmp 35) 1, none, []⟩,
     ⟨(some 11), .move (.tmp 40), none, []⟩,
     ⟨(some 12), .move (.tmp 41), none, []⟩]) k4x18)) k4x17) k4x16
def k4x12 : AC := .seq (.seq (.cond (.tmp 34)
   (.skip)
   (.seq (.mask 518) k4x15)) k4x14) k4x13
def k4x11 : AC := .seq (.ops false [
    ⟨(some 34), .bin .other .lss (.tmp 33) (.tmp 32), none, []⟩]) k4x12
def k4x10 : AC := .mask 518
def k4x9 : AC := .seq (.block 0 (.loop 12884902406 518 k4x11)) k4x10
def k4x27 : AC := .join 26116
def k4x26 : AC := .seq (.cond (.tmp 51)
   (.ops false [
      ⟨(some 14), .move (.c (.int .i64 1)), none, []⟩])
   (.skip)) k4x27
def k4x30 : AC := .ret
def k4x29 : AC := .seq (.mask 256) k4x30
def k4x25 : AC := .seq (.ops true [
    ⟨(some 52), .move (.tmp 10), none, []⟩,
    ⟨(some 53), .bin .other .eql (.tmp 52) (.c (.int .i64 0)), none, []⟩,
    ⟨(some 54), .move (.tmp 53), none, []⟩,
    ⟨(some 55), .move (.tmp 13), (some (54, true)), []⟩,
    ⟨(some 56), .move (.tmp 2), (some (54, true)), []⟩,
    ⟨(some 57), .bin .bool .eql (.tmp 55) (.tmp 56), (some (54, true)), []⟩,
    ⟨(some 58), .pick (.tmp 54) (.tmp 57) (.c (.bool false)), none, []⟩,
    ⟨(some 59), .move (.tmp 58), none, []⟩,
    ⟨(some 60), .move (.tmp 9), (some (59, true)), []⟩,
    ⟨(some 61), .call 21 [(.tmp 60)] [(.cell (.int .i64))] (.int .i64 0), (some (59, true)), []⟩,
    ⟨(some 62), .move (.tmp 14), (some (59, true)), []⟩,
    ⟨(some 63), .bin .other .eql (.tmp 61) (.tmp 62), (some (59, true)), []⟩,
    ⟨(some 64), .pick (.tmp 59) (.tmp 63) (.c (.bool false)), none, []⟩,
    ⟨(some 8), .move (.tmp 64), none, []⟩]) k4x29
def k4x24 : AC := .seq (.seq (.ops false [
    ⟨(some 51), .move (.tmp 2), none, []⟩]) k4x26) k4x25
def k4x23 : AC := .seq (.ops false [
    ⟨(some 14), .move (.c (.int .i64 0)), none, []⟩]) k4x24
def k4x8 : AC := .seq (.ops false [
    ⟨(some 46), .move (.tmp 9), none, []⟩,
    ⟨(some 47), .move (.tmp 1), none, []⟩,
    ⟨(some 48), .call 20 [(.tmp 46), (.tmp 47)] [(.cell .bool), (.cell (.int .i64))] .opq, none, []⟩,
    ⟨(some 45), .move (.tmp 48), none, []⟩,
    ⟨(some 49), .extract (.tmp 45) 0, none, []⟩,
    ⟨(some 50), .extract (.tmp 45) 1, none, []⟩,
    ⟨(some 13), .move (.tmp 49), none, []⟩,
    ⟨(some 10), .move (.tmp 50), none, []⟩]) k4x23
def k4x7 : AC := .seq (.seq (.ops false [
    ⟨(some 30), .move (.tmp 3), none, []⟩,
    ⟨(some 31), .call 14 [(.tmp 30), (.c (.int .i64 20))] [(.cell (.int .i64))] (.int .i64 0), none, []⟩,
    ⟨(some 32), .bin .other .add (.c (.int .i64 1)) (.tmp 31), none, []⟩,
    ⟨(some 33), .move (.c (.int .i64 0)), none, []⟩]) k4x9) k4x8
def k4x2 : AC := .seq (.ops false [
    ⟨(some 28), .move (.tmp 1), none, []⟩,
    ⟨(some 29), .call 14 [(.tmp 28), (.c (.int .i64 16384))] [(.cell (.int .i64))] (.int .i64 0), none, []⟩,
    ⟨(some 1), .move (.tmp 29), none, []⟩]) k4x7
def k4x1 : AC := .seq (.seq (.ops true [
    ⟨(some 22), .move (.tmp 10), none, []⟩,
    ⟨(some 23), .bin .other .neq (.tmp 22) (.c (.int .i64 0)), none, []⟩,
    ⟨(some 24), .move (.tmp 23), none, []⟩,
    ⟨(some 25), .move (.tmp 9), (some (24, false)), []⟩,
    ⟨(some 26), .bin .ptr .eql (.tmp 25) (.c (.ptr none)), (some (24, false)), []⟩,
    ⟨(some 27), .pick (.tmp 24) (.c (.bool true)) (.tmp 26), none, []⟩]) k4x3) k4x2
def k4x0 : AC := .seq (.ops false [
    ⟨(some 16), .move (.tmp 0), none, []⟩,
    ⟨(some 17), .call 14 [(.tmp 16), (.c (.int .i64 1024))] [(.cell (.int .i64))] (.int .i64 0), none, []⟩,
    ⟨(some 18), .bin .other .add (.c (.int .i64 1)) (.tmp 17), none, []⟩,
    ⟨(some 19), .call 18 [(.tmp 18)] [(.cell .ptr), (.cell (.int .i64))] .opq, none, []⟩,
    ⟨(some 15), .move (.tmp 19), none, []⟩,
    ⟨(some 20), .extract (.tmp 15) 0, none, []⟩,
    ⟨(some 21), .extract (.tmp 15) 1, none, []⟩,
    ⟨(some 9), .move (.tmp 20), none, []⟩,
    ⟨(some 10), .move (.tmp 21), none, []⟩]) k4x1
/-- provenance/provenancekeep4.PredictSteady -/
def c4 : AFn := ⟨65, [.tmp 8],
  .seq (.ops false [
    ⟨(some 8), .move (.c (.bool false)), none, []⟩]) k4x0⟩
def S4xr (b8 : Bool) (h : Heap) : St := ⟨(rep 8 (.g [] true (.bool b8) :: (rep 56 []))), h⟩
def S4xe0 (i1 : Int) (b2 : Bool) (p9 : Option Ad) (h : Heap) : St := ⟨(.any :: (.g [] true (.int .i64 i1) :: (.g [] true (.bool b2) :: (rep 6 (.g [] true (.ptr p9) :: (rep 55 [])))))), h⟩
noncomputable def Q4x11 : Kont (AV × Heap) := (blockQ 0 (seqQ (evalE M C k4x10) (seqQ (evalE M C k4x8) (endQ [.tmp 8]))))
noncomputable def L4x11 (i1 : Int) (b2 : Bool) (p9 : Option Ad) (i32 : Int) (i33 : Int) (h : Heap) (Q : Kont R) : Option R := loopE (evalE M C k4x11) 12884902406 518 ⟨(.any :: (.g [] true (.int .i64 i1) :: (.g [] true (.bool b2) :: (rep 6 (.g [] true (.ptr p9) :: (rep 22 (.g [] true (.int .i64 i32) :: (.g [] true (.int .i64 i33) :: (rep 31 []))))))))), h⟩ Q
noncomputable def J4x28 (b2 : Bool) (p9 : Option Ad) (i10 : Int) (b13 : Bool) (i14 : Int) (h : Heap) : Res := M (AV × Heap) (seqQ (evalE M C k4x25) (endQ [.tmp 8])) (.any :: .any :: (.g [] true (.bool b2) :: (rep 6 (.g [] true (.ptr p9) :: (.g [] true (.int .i64 i10) :: (.any :: .any :: (.g [] true (.bool b13) :: (.g [] true (.int .i64 i14) :: (rep 50 []))))))))) h
theorem r4 (i0 : Int) (i1 : Int) (b2 : Bool) (i3 : Int) (h : Heap) : runE M C c4 [(.int .i64 i0), (.int .i64 i1), (.bool b2), (.int .i64 i3)] h = (
  (C 14 [(.int .i64 i0), (.int .i64 1024)] h).bind fun r17 =>
  gI .i64 (some r17.1) true fun i17 =>
  letK ((IntKind.wrap .i64 (1 + i17)) : Int) fun i18 =>
  (C 18 [(.int .i64 i18)] r17.2).bind fun r19 =>
  gT 2 r19.1 true fun u19 =>
  gP (some (List.getD u19 0 .opq)) true fun p19x0 =>
  gI .i64 (some (List.getD u19 1 .opq)) true fun i19x1 =>
  letK ((!decide ((i19x1 : Int) = 0)) : Bool) fun b23 =>
  letK ((Option.isNone p19x0) : Bool) fun b26 =>
  letK ((if b23 = true then true else b26) : Bool) fun b27 =>
  if b27 = true then
    (
    some ((.bool false), r19.2)
    )
  else
    (
    (C 14 [(.int .i64 i1), (.int .i64 16384)] r19.2).bind fun r29 =>
    gI .i64 (some r29.1) true fun i29 =>
    (C 14 [(.int .i64 i3), (.int .i64 20)] r29.2).bind fun r31 =>
    gI .i64 (some r31.1) true fun i31 =>
    letK ((IntKind.wrap .i64 (1 + i31)) : Int) fun i32 =>
    L4x11 M C i29 b2 p19x0 i32 0 r31.2 (Q4x11 M C)
    )
  ) := by kernel_rfl
theorem cf4 : cFn Try.prog 4 = some c4 := by kernel_rfl
theorem e4 (i0 : Int) (i1 : Int) (b2 : Bool) (i3 : Int) (h : Heap) : E 4 [(.int .i64 i0), (.int .i64 i1), (.bool b2), (.int .i64 i3)] h = (
  (E 14 [(.int .i64 i0), (.int .i64 1024)] h).bind fun r17 =>
  gI .i64 (some r17.1) true fun i17 =>
  letK ((IntKind.wrap .i64 (1 + i17)) : Int) fun i18 =>
  (E 18 [(.int .i64 i18)] r17.2).bind fun r19 =>
  gT 2 r19.1 true fun u19 =>
  gP (some (List.getD u19 0 .opq)) true fun p19x0 =>
  gI .i64 (some (List.getD u19 1 .opq)) true fun i19x1 =>
  letK ((!decide ((i19x1 : Int) = 0)) : Bool) fun b23 =>
  letK ((Option.isNone p19x0) : Bool) fun b26 =>
  letK ((if b23 = true then true else b26) : Bool) fun b27 =>
  if b27 = true then
    (
    some ((.bool false), r19.2)
    )
  else
    (
    (E 14 [(.int .i64 i1), (.int .i64 16384)] r19.2).bind fun r29 =>
    gI .i64 (some r29.1) true fun i29 =>
    (E 14 [(.int .i64 i3), (.int .i64 20)] r29.2).bind fun r31 =>
    gI .i64 (some r31.1) true fun i31 =>
    letK ((IntKind.wrap .i64 (1 + i31)) : Int) fun i32 =>
    L4x11 mk0 E i29 b2 p19x0 i32 0 r31.2 (Q4x11 mk0 E)
    )
  ) := (EV_eq (P := Try.prog) (T := T0) rfl cf4 [(.int .i64 i0), (.int .i64 i1), (.bool b2), (.int .i64 i3)] h).trans (r4 mk0 E i0 i1 b2 i3 h)
theorem L4x11xaux (i1 : Int) (b2 : Bool) (p9 : Option Ad) (i32 : Int) (i33 : Int) (h : Heap) (Q : Kont R) : (restrF 12884902406 ⟨(.any :: (.g [] true (.int .i64 i1) :: (.g [] true (.bool b2) :: (rep 6 (.g [] true (.ptr p9) :: (rep 22 (.g [] true (.int .i64 i32) :: (.g [] true (.int .i64 i33) :: (rep 31 []))))))))), h⟩ fun σ => evalE M C k4x11 σ (roundQ M C k4x11 12884902406 518 Q)) = (
  letK ((decide ((i33 : Int) < i32)) : Bool) fun b34 =>
  if b34 = true then
    (
    (C 19 [(.ptr p9), (.int .i64 i1), (.bool b2)] h).bind fun r39 =>
    gT 2 r39.1 true fun u39 =>
    gB (some (List.getD u39 0 .opq)) true fun b39x0 =>
    gI .i64 (some (List.getD u39 1 .opq)) true fun i39x1 =>
    letK ((!decide ((i39x1 : Int) = 0)) : Bool) fun b43 =>
    if b43 = true then
      (
      Q .ret (S4xr false r39.2)
      )
    else
      (
      letK ((IntKind.wrap .i64 (i33 + 1)) : Int) fun i44 =>
      L4x11 M C i1 b2 p9 i32 i44 r39.2 Q
      )
    )
  else
    (
    Q (.exit 0) (S4xe0 i1 b2 p9 h)
    )
  ) := by kernel_rfl
theorem L4x11xeq (i1 : Int) (b2 : Bool) (p9 : Option Ad) (i32 : Int) (i33 : Int) (h : Heap) (Q : Kont R) : L4x11 mk0 C i1 b2 p9 i32 i33 h Q = (
  letK ((decide ((i33 : Int) < i32)) : Bool) fun b34 =>
  if b34 = true then
    (
    (C 19 [(.ptr p9), (.int .i64 i1), (.bool b2)] h).bind fun r39 =>
    gT 2 r39.1 true fun u39 =>
    gB (some (List.getD u39 0 .opq)) true fun b39x0 =>
    gI .i64 (some (List.getD u39 1 .opq)) true fun i39x1 =>
    letK ((!decide ((i39x1 : Int) = 0)) : Bool) fun b43 =>
    if b43 = true then
      (
      Q .ret (S4xr false r39.2)
      )
    else
      (
      letK ((IntKind.wrap .i64 (i33 + 1)) : Int) fun i44 =>
      L4x11 mk0 C i1 b2 p9 i32 i44 r39.2 Q
      )
    )
  else
    (
    Q (.exit 0) (S4xe0 i1 b2 p9 h)
    )
  ) := loop_eqn C k4x11 12884902406 518 (.any :: (.g [] true (.int .i64 i1) :: (.g [] true (.bool b2) :: (rep 6 (.g [] true (.ptr p9) :: (rep 22 (.g [] true (.int .i64 i32) :: (.g [] true (.int .i64 i33) :: (rep 31 []))))))))) h Q (by kernel_rfl) (L4x11xaux mk0 C i1 b2 p9 i32 i33 h Q)
theorem X4x11xr (b8 : Bool) (h : Heap) : Q4x11 M C .ret (S4xr b8 h) = (
  some ((.bool b8), h)
  ) := by kernel_rfl
theorem X4x11xe0 (i1 : Int) (b2 : Bool) (p9 : Option Ad) (h : Heap) : Q4x11 M C (.exit 0) (S4xe0 i1 b2 p9 h) = (
  (C 20 [(.ptr p9), (.int .i64 i1)] h).bind fun r48 =>
  gT 2 r48.1 true fun u48 =>
  gB (some (List.getD u48 0 .opq)) true fun b48x0 =>
  gI .i64 (some (List.getD u48 1 .opq)) true fun i48x1 =>
  if b2 = true then
    (
    J4x28 M C b2 p9 i48x1 b48x0 1 r48.2
    )
  else
    (
    J4x28 M C b2 p9 i48x1 b48x0 0 r48.2
    )
  ) := by kernel_rfl
theorem J4x28xaux (b2 : Bool) (p9 : Option Ad) (i10 : Int) (b13 : Bool) (i14 : Int) (h : Heap) : (forceK tk (.any :: .any :: (.g [] true (.bool b2) :: (rep 6 (.g [] true (.ptr p9) :: (.g [] true (.int .i64 i10) :: (.any :: .any :: (.g [] true (.bool b13) :: (.g [] true (.int .i64 i14) :: (rep 50 []))))))))) fun e => (seqQ (evalE M C k4x25) (endQ [.tmp 8])) .normal ⟨e, h⟩) = (
  letK ((decide ((i10 : Int) = 0)) : Bool) fun b53 =>
  letK ((if b53 = true then (b13 == b2) else false) : Bool) fun b58 =>
  (callO b58 (C 21 [(.ptr p9)] h) (.int .i64 0) h).bind fun r61 =>
  gI .i64 (some r61.1) b58 fun i61 =>
  letK ((decide ((i61 : Int) = i14)) : Bool) fun b63 =>
  letK ((if b58 = true then b63 else false) : Bool) fun b64 =>
  some ((.bool b64), r61.2)
  ) := by kernel_rfl
theorem J4x28xeq (b2 : Bool) (p9 : Option Ad) (i10 : Int) (b13 : Bool) (i14 : Int) (h : Heap) : J4x28 mk0 C b2 p9 i10 b13 i14 h = (
  letK ((decide ((i10 : Int) = 0)) : Bool) fun b53 =>
  letK ((if b53 = true then (b13 == b2) else false) : Bool) fun b58 =>
  (callO b58 (C 21 [(.ptr p9)] h) (.int .i64 0) h).bind fun r61 =>
  gI .i64 (some r61.1) b58 fun i61 =>
  letK ((decide ((i61 : Int) = i14)) : Bool) fun b63 =>
  letK ((if b58 = true then b63 else false) : Bool) fun b64 =>
  some ((.bool b64), r61.2)
  ) := join_eqn (seqQ (evalE mk0 C k4x25) (endQ [.tmp 8])) (.any :: .any :: (.g [] true (.bool b2) :: (rep 6 (.g [] true (.ptr p9) :: (.g [] true (.int .i64 i10) :: (.any :: .any :: (.g [] true (.bool b13) :: (.g [] true (.int .i64 i14) :: (rep 50 []))))))))) h (J4x28xaux mk0 C b2 p9 i10 b13 i14 h)
def k5x6 : AC := .ret
def k5x5 : AC := .seq (.mask 64) k5x6
def k5x4 : AC := .mask 135
def k5x3 : AC := .seq (.cond (.tmp 18)
   (.seq (.ops false [
      ⟨(some 6), .move (.c (.bool false)), none, []⟩]) k5x5)
   (.skip)) k5x4
def k5x15 : AC := .exit 0
def k5x14 : AC := .mask 402653319
def k5x25 : AC := .exit 2
def k5x24 : AC := .mask 3623878791
def k5x27 : AC := .mask 3623878791
def k5x26 : AC := .ops false [
    ⟨(some 36), .bin .other .add (.tmp 31) (.c (.int .i64 1)), none, []⟩,
    ⟨(some 31), .move (.tmp 36), none, []⟩]
def k5x23 : AC := .seq (.seq (.block 3 (.ops false [
     ⟨(some 33), .move (.tmp 7), none, []⟩,
     ⟨(some 34), .move (.tmp 0), none, []⟩,
     ⟨(some 35), .call 19 [(.tmp 33), (.tmp 34), (.c (.bool true))] [(.cell .bool), (.cell (.int .i64))] .opq, none, []⟩])) k5x27) k5x26
def k5x22 : AC := .seq (.seq (.cond (.tmp 32)
   (.skip)
   (.seq (.mask 402653319) k5x25)) k5x24) k5x23
def k5x21 : AC := .seq (.ops false [
    ⟨(some 32), .bin .other .lss (.tmp 31) (.tmp 30), none, []⟩]) k5x22
def k5x20 : AC := .mask 402653319
def k5x19 : AC := .seq (.block 2 (.loop 3623878791 402653319 k5x21)) k5x20
def k5x18 : AC := .ops false [
    ⟨(some 37), .move (.tmp 7), none, []⟩,
    ⟨(some 38), .move (.tmp 0), none, []⟩,
    ⟨(some 39), .call 19 [(.tmp 37), (.tmp 38), (.c (.bool false))] [(.cell .bool), (.cell (.int .i64))] .opq, none, []⟩]
def k5x17 : AC := .mask 402653319
def k5x16 : AC := .ops false [
    ⟨(some 40), .bin .other .add (.tmp 28) (.c (.int .i64 1)), none, []⟩,
    ⟨(some 28), .move (.tmp 40), none, []⟩]
def k5x13 : AC := .seq (.seq (.block 1 (.seq (.seq (.ops false [
     ⟨(some 30), .move (.tmp 1), none, []⟩,
     ⟨(some 31), .move (.c (.int .i64 0)), none, []⟩]) k5x19) k5x18)) k5x17) k5x16
def k5x12 : AC := .seq (.seq (.cond (.tmp 29)
   (.skip)
   (.seq (.mask 132) k5x15)) k5x14) k5x13
def k5x11 : AC := .seq (.ops false [
    ⟨(some 29), .bin .other .lss (.tmp 28) (.tmp 27), none, []⟩]) k5x12
def k5x10 : AC := .mask 132
def k5x9 : AC := .seq (.block 0 (.loop 402653319 132 k5x11)) k5x10
def k5x29 : AC := .ret
def k5x28 : AC := .seq (.mask 64) k5x29
def k5x8 : AC := .seq (.ops true [
    ⟨(some 41), .move (.tmp 7), none, []⟩,
    ⟨(some 42), .call 21 [(.tmp 41)] [(.cell (.int .i64))] (.int .i64 0), none, []⟩,
    ⟨(some 43), .move (.tmp 2), none, []⟩,
    ⟨(some 44), .bin .other .geq (.tmp 42) (.tmp 43), none, []⟩,
    ⟨(some 45), .move (.tmp 44), none, []⟩,
    ⟨(some 46), .move (.tmp 7), (some (45, true)), []⟩,
    ⟨(some 47), .call 21 [(.tmp 46)] [(.cell (.int .i64))] (.int .i64 0), (some (45, true)), []⟩,
    ⟨(some 48), .move (.tmp 2), (some (45, true)), []⟩,
    ⟨(some 49), .bin .other .add (.tmp 48) (.c (.int .i64 2)), (some (45, true)), []⟩,
    ⟨(some 50), .bin .other .leq (.tmp 47) (.tmp 49), (some (45, true)), []⟩,
    ⟨(some 51), .pick (.tmp 45) (.tmp 50) (.c (.bool false)), none, []⟩,
    ⟨(some 6), .move (.tmp 51), none, []⟩]) k5x28
def k5x7 : AC := .seq (.seq (.ops false [
    ⟨(some 27), .move (.tmp 2), none, []⟩,
    ⟨(some 28), .move (.c (.int .i64 0)), none, []⟩]) k5x9) k5x8
def k5x2 : AC := .seq (.ops false [
    ⟨(some 19), .move (.tmp 0), none, []⟩,
    ⟨(some 20), .call 14 [(.tmp 19), (.c (.int .i64 16384))] [(.cell (.int .i64))] (.int .i64 0), none, []⟩,
    ⟨(some 21), .move (.tmp 1), none, []⟩,
    ⟨(some 22), .call 14 [(.tmp 21), (.c (.int .i64 10))] [(.cell (.int .i64))] (.int .i64 0), none, []⟩,
    ⟨(some 23), .bin .other .add (.c (.int .i64 2)) (.tmp 22), none, []⟩,
    ⟨(some 24), .move (.tmp 2), none, []⟩,
    ⟨(some 25), .call 14 [(.tmp 24), (.c (.int .i64 10))] [(.cell (.int .i64))] (.int .i64 0), none, []⟩,
    ⟨(some 26), .bin .other .add (.c (.int .i64 1)) (.tmp 25), none, []⟩,
    ⟨(some 0), .move (.tmp 20), none, []⟩,
    ⟨(some 1), .move (.tmp 23), none, []⟩,
    ⟨(some 2), .move (.tmp 26), none, []⟩]) k5x7
def k5x1 : AC := .seq (.seq (.ops true [
    ⟨(some 13), .move (.tmp 8), none, []⟩,
    ⟨(some 14), .bin .other .neq (.tmp 13) (.c (.int .i64 0)), none, []⟩,
    ⟨(some 15), .move (.tmp 14), none, []⟩,
    ⟨(some 16), .move (.tmp 7), (some (15, false)), []⟩,
    ⟨(some 17), .bin .ptr .eql (.tmp 16) (.c (.ptr none)), (some (15, false)), []⟩,
    ⟨(some 18), .pick (.tmp 15) (.c (.bool true)) (.tmp 17), none, []⟩]) k5x3) k5x2
def k5x0 : AC := .seq (.ops false [
    ⟨(some 10), .call 18 [(.c (.int .i64 64))] [(.cell .ptr), (.cell (.int .i64))] .opq, none, []⟩,
    ⟨(some 9), .move (.tmp 10), none, []⟩,
    ⟨(some 11), .extract (.tmp 9) 0, none, []⟩,
    ⟨(some 12), .extract (.tmp 9) 1, none, []⟩,
    ⟨(some 7), .move (.tmp 11), none, []⟩,
    ⟨(some 8), .move (.tmp 12), none, []⟩]) k5x1
/-- provenance/provenancekeep4.PredictLoops -/
def c5 : AFn := ⟨52, [.tmp 6],
  .seq (.ops false [
    ⟨(some 6), .move (.c (.bool false)), none, []⟩]) k5x0⟩
def S5xe0 (i2 : Int) (p7 : Option Ad) (h : Heap) : St := ⟨(.any :: .any :: (.g [] true (.int .i64 i2) :: (rep 4 (.g [] true (.ptr p7) :: (rep 44 []))))), h⟩
def S5xe2 (i0 : Int) (i1 : Int) (i2 : Int) (p7 : Option Ad) (i27 : Int) (i28 : Int) (h : Heap) : St := ⟨(.g [] true (.int .i64 i0) :: (.g [] true (.int .i64 i1) :: (.g [] true (.int .i64 i2) :: (rep 4 (.g [] true (.ptr p7) :: (rep 19 (.g [] true (.int .i64 i27) :: (.g [] true (.int .i64 i28) :: (rep 23 []))))))))), h⟩
noncomputable def Q5x11 : Kont (AV × Heap) := (blockQ 0 (seqQ (evalE M C k5x10) (seqQ (evalE M C k5x8) (endQ [.tmp 6]))))
noncomputable def L5x11 (i0 : Int) (i1 : Int) (i2 : Int) (p7 : Option Ad) (i27 : Int) (i28 : Int) (h : Heap) (Q : Kont R) : Option R := loopE (evalE M C k5x11) 402653319 132 ⟨(.g [] true (.int .i64 i0) :: (.g [] true (.int .i64 i1) :: (.g [] true (.int .i64 i2) :: (rep 4 (.g [] true (.ptr p7) :: (rep 19 (.g [] true (.int .i64 i27) :: (.g [] true (.int .i64 i28) :: (rep 23 []))))))))), h⟩ Q
noncomputable def Q5x21 (Q : Kont R) : Kont R := (blockQ 2 (seqQ (evalE M C k5x20) (seqQ (evalE M C k5x18) (blockQ 1 (seqQ (evalE M C k5x17) (seqQ (evalE M C k5x16) (roundQ M C k5x11 402653319 132 Q)))))))
noncomputable def L5x21 (i0 : Int) (i1 : Int) (i2 : Int) (p7 : Option Ad) (i27 : Int) (i28 : Int) (i30 : Int) (i31 : Int) (h : Heap) (Q : Kont R) : Option R := loopE (evalE M C k5x21) 3623878791 402653319 ⟨(.g [] true (.int .i64 i0) :: (.g [] true (.int .i64 i1) :: (.g [] true (.int .i64 i2) :: (rep 4 (.g [] true (.ptr p7) :: (rep 19 (.g [] true (.int .i64 i27) :: (.g [] true (.int .i64 i28) :: (.any :: (.g [] true (.int .i64 i30) :: (.g [] true (.int .i64 i31) :: (rep 20 [])))))))))))), h⟩ Q
theorem r5 (i0 : Int) (i1 : Int) (i2 : Int) (h : Heap) : runE M C c5 [(.int .i64 i0), (.int .i64 i1), (.int .i64 i2)] h = (
  (C 18 [(.int .i64 64)] h).bind fun r10 =>
  gT 2 r10.1 true fun u10 =>
  gP (some (List.getD u10 0 .opq)) true fun p10x0 =>
  gI .i64 (some (List.getD u10 1 .opq)) true fun i10x1 =>
  letK ((!decide ((i10x1 : Int) = 0)) : Bool) fun b14 =>
  letK ((Option.isNone p10x0) : Bool) fun b17 =>
  letK ((if b14 = true then true else b17) : Bool) fun b18 =>
  if b18 = true then
    (
    some ((.bool false), r10.2)
    )
  else
    (
    (C 14 [(.int .i64 i0), (.int .i64 16384)] r10.2).bind fun r20 =>
    gI .i64 (some r20.1) true fun i20 =>
    (C 14 [(.int .i64 i1), (.int .i64 10)] r20.2).bind fun r22 =>
    gI .i64 (some r22.1) true fun i22 =>
    letK ((IntKind.wrap .i64 (2 + i22)) : Int) fun i23 =>
    (C 14 [(.int .i64 i2), (.int .i64 10)] r22.2).bind fun r25 =>
    gI .i64 (some r25.1) true fun i25 =>
    letK ((IntKind.wrap .i64 (1 + i25)) : Int) fun i26 =>
    L5x11 M C i20 i23 i26 p10x0 i26 0 r25.2 (Q5x11 M C)
    )
  ) := by kernel_rfl
theorem cf5 : cFn Try.prog 5 = some c5 := by kernel_rfl
theorem e5 (i0 : Int) (i1 : Int) (i2 : Int) (h : Heap) : E 5 [(.int .i64 i0), (.int .i64 i1), (.int .i64 i2)] h = (
  (E 18 [(.int .i64 64)] h).bind fun r10 =>
  gT 2 r10.1 true fun u10 =>
  gP (some (List.getD u10 0 .opq)) true fun p10x0 =>
  gI .i64 (some (List.getD u10 1 .opq)) true fun i10x1 =>
  letK ((!decide ((i10x1 : Int) = 0)) : Bool) fun b14 =>
  letK ((Option.isNone p10x0) : Bool) fun b17 =>
  letK ((if b14 = true then true else b17) : Bool) fun b18 =>
  if b18 = true then
    (
    some ((.bool false), r10.2)
    )
  else
    (
    (E 14 [(.int .i64 i0), (.int .i64 16384)] r10.2).bind fun r20 =>
    gI .i64 (some r20.1) true fun i20 =>
    (E 14 [(.int .i64 i1), (.int .i64 10)] r20.2).bind fun r22 =>
    gI .i64 (some r22.1) true fun i22 =>
    letK ((IntKind.wrap .i64 (2 + i22)) : Int) fun i23 =>
    (E 14 [(.int .i64 i2), (.int .i64 10)] r22.2).bind fun r25 =>
    gI .i64 (some r25.1) true fun i25 =>
    letK ((IntKind.wrap .i64 (1 + i25)) : Int) fun i26 =>
    L5x11 mk0 E i20 i23 i26 p10x0 i26 0 r25.2 (Q5x11 mk0 E)
    )
  ) := (EV_eq (P := Try.prog) (T := T0) rfl cf5 [(.int .i64 i0), (.int .i64 i1), (.int .i64 i2)] h).trans (r5 mk0 E i0 i1 i2 h)
theorem L5x11xaux (i0 : Int) (i1 : Int) (i2 : Int) (p7 : Option Ad) (i27 : Int) (i28 : Int) (h : Heap) (Q : Kont R) : (restrF 402653319 ⟨(.g [] true (.int .i64 i0) :: (.g [] true (.int .i64 i1) :: (.g [] true (.int .i64 i2) :: (rep 4 (.g [] true (.ptr p7) :: (rep 19 (.g [] true (.int .i64 i27) :: (.g [] true (.int .i64 i28) :: (rep 23 []))))))))), h⟩ fun σ => evalE M C k5x11 σ (roundQ M C k5x11 402653319 132 Q)) = (
  letK ((decide ((i28 : Int) < i27)) : Bool) fun b29 =>
  if b29 = true then
    (
    L5x21 M C i0 i1 i2 p7 i27 i28 i1 0 h (Q5x21 M C Q)
    )
  else
    (
    Q (.exit 0) (S5xe0 i2 p7 h)
    )
  ) := by kernel_rfl
theorem L5x11xeq (i0 : Int) (i1 : Int) (i2 : Int) (p7 : Option Ad) (i27 : Int) (i28 : Int) (h : Heap) (Q : Kont R) : L5x11 mk0 C i0 i1 i2 p7 i27 i28 h Q = (
  letK ((decide ((i28 : Int) < i27)) : Bool) fun b29 =>
  if b29 = true then
    (
    L5x21 mk0 C i0 i1 i2 p7 i27 i28 i1 0 h (Q5x21 mk0 C Q)
    )
  else
    (
    Q (.exit 0) (S5xe0 i2 p7 h)
    )
  ) := loop_eqn C k5x11 402653319 132 (.g [] true (.int .i64 i0) :: (.g [] true (.int .i64 i1) :: (.g [] true (.int .i64 i2) :: (rep 4 (.g [] true (.ptr p7) :: (rep 19 (.g [] true (.int .i64 i27) :: (.g [] true (.int .i64 i28) :: (rep 23 []))))))))) h Q (by kernel_rfl) (L5x11xaux mk0 C i0 i1 i2 p7 i27 i28 h Q)
theorem L5x21xaux (i0 : Int) (i1 : Int) (i2 : Int) (p7 : Option Ad) (i27 : Int) (i28 : Int) (i30 : Int) (i31 : Int) (h : Heap) (Q : Kont R) : (restrF 3623878791 ⟨(.g [] true (.int .i64 i0) :: (.g [] true (.int .i64 i1) :: (.g [] true (.int .i64 i2) :: (rep 4 (.g [] true (.ptr p7) :: (rep 19 (.g [] true (.int .i64 i27) :: (.g [] true (.int .i64 i28) :: (.any :: (.g [] true (.int .i64 i30) :: (.g [] true (.int .i64 i31) :: (rep 20 [])))))))))))), h⟩ fun σ => evalE M C k5x21 σ (roundQ M C k5x21 3623878791 402653319 Q)) = (
  letK ((decide ((i31 : Int) < i30)) : Bool) fun b32 =>
  if b32 = true then
    (
    (C 19 [(.ptr p7), (.int .i64 i0), (.bool true)] h).bind fun r35 =>
    gT 2 r35.1 true fun u35 =>
    gB (some (List.getD u35 0 .opq)) true fun b35x0 =>
    gI .i64 (some (List.getD u35 1 .opq)) true fun i35x1 =>
    letK ((IntKind.wrap .i64 (i31 + 1)) : Int) fun i36 =>
    L5x21 M C i0 i1 i2 p7 i27 i28 i30 i36 r35.2 Q
    )
  else
    (
    Q (.exit 2) (S5xe2 i0 i1 i2 p7 i27 i28 h)
    )
  ) := by kernel_rfl
theorem L5x21xeq (i0 : Int) (i1 : Int) (i2 : Int) (p7 : Option Ad) (i27 : Int) (i28 : Int) (i30 : Int) (i31 : Int) (h : Heap) (Q : Kont R) : L5x21 mk0 C i0 i1 i2 p7 i27 i28 i30 i31 h Q = (
  letK ((decide ((i31 : Int) < i30)) : Bool) fun b32 =>
  if b32 = true then
    (
    (C 19 [(.ptr p7), (.int .i64 i0), (.bool true)] h).bind fun r35 =>
    gT 2 r35.1 true fun u35 =>
    gB (some (List.getD u35 0 .opq)) true fun b35x0 =>
    gI .i64 (some (List.getD u35 1 .opq)) true fun i35x1 =>
    letK ((IntKind.wrap .i64 (i31 + 1)) : Int) fun i36 =>
    L5x21 mk0 C i0 i1 i2 p7 i27 i28 i30 i36 r35.2 Q
    )
  else
    (
    Q (.exit 2) (S5xe2 i0 i1 i2 p7 i27 i28 h)
    )
  ) := loop_eqn C k5x21 3623878791 402653319 (.g [] true (.int .i64 i0) :: (.g [] true (.int .i64 i1) :: (.g [] true (.int .i64 i2) :: (rep 4 (.g [] true (.ptr p7) :: (rep 19 (.g [] true (.int .i64 i27) :: (.g [] true (.int .i64 i28) :: (.any :: (.g [] true (.int .i64 i30) :: (.g [] true (.int .i64 i31) :: (rep 20 [])))))))))))) h Q (by kernel_rfl) (L5x21xaux mk0 C i0 i1 i2 p7 i27 i28 i30 i31 h Q)
theorem X5x11xe0 (i2 : Int) (p7 : Option Ad) (h : Heap) : Q5x11 M C (.exit 0) (S5xe0 i2 p7 h) = (
  (C 21 [(.ptr p7)] h).bind fun r42 =>
  gI .i64 (some r42.1) true fun i42 =>
  letK ((decide ((i2 : Int) ≤ i42)) : Bool) fun b44 =>
  (callO b44 (C 21 [(.ptr p7)] r42.2) (.int .i64 0) r42.2).bind fun r47 =>
  gI .i64 (some r47.1) b44 fun i47 =>
  letK ((IntKind.wrap .i64 (i2 + 2)) : Int) fun i49 =>
  letK ((decide ((i47 : Int) ≤ i49)) : Bool) fun b50 =>
  letK ((if b44 = true then b50 else false) : Bool) fun b51 =>
  some ((.bool b51), r47.2)
  ) := by kernel_rfl
theorem X5x21xe2 (i0 : Int) (i1 : Int) (i2 : Int) (p7 : Option Ad) (i27 : Int) (i28 : Int) (h : Heap) (Q : Kont R) : Q5x21 M C Q (.exit 2) (S5xe2 i0 i1 i2 p7 i27 i28 h) = (
  (C 19 [(.ptr p7), (.int .i64 i0), (.bool false)] h).bind fun r39 =>
  gT 2 r39.1 true fun u39 =>
  gB (some (List.getD u39 0 .opq)) true fun b39x0 =>
  gI .i64 (some (List.getD u39 1 .opq)) true fun i39x1 =>
  letK ((IntKind.wrap .i64 (i28 + 1)) : Int) fun i40 =>
  L5x11 M C i0 i1 i2 p7 i27 i40 r39.2 Q
  ) := by kernel_rfl
end
end Go.Proofs.Ytmfmnbldngfelaa.T
