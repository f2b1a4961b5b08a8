/- Parts of the proof, printed. -/
import Derived.Test.YtepkdcgokedkdaaHGen3
import Derived.KernelRfl
set_option linter.unusedVariables false
set_option maxRecDepth 100000
namespace Go.Proofs.Ytepkdcgokedkdaa.H
open Go Go.Proofs.Ytepkdcgokedkdaa.Abs Go.Proofs
section
variable {R : Type} (M : Mk) (C : Cal)
def k25x2 : AC := .ret
def k25x1 : AC := .seq (.mask 4) k25x2
def k25x0 : AC := .seq (.ops false [
    ⟨(some 3), .move (.tmp 0), none, []⟩,
    ⟨(some 4), .conv .u64 (.tmp 3), none, []⟩,
    ⟨(some 5), .conv .u32 (.tmp 4), none, []⟩,
    ⟨(some 6), .conv .i32 (.tmp 5), none, []⟩,
    ⟨(some 7), .conv .i64 (.tmp 6), none, []⟩,
    ⟨(some 2), .move (.tmp 7), none, []⟩]) k25x1
/-- provenance/provenanceref4.Small -/
def c25 : AFn := ⟨8, [.tmp 2],
  .seq (.ops false [
    ⟨(some 2), .move (.c (.int .i64 0)), none, []⟩]) k25x0⟩
theorem r25 (i0 : Int) (h : Heap) : runE M C c25 [(.int .i64 i0)] h = (
  letK ((IntKind.wrap .u64 i0) : Int) fun i4 =>
  letK ((IntKind.wrap .u32 i4) : Int) fun i5 =>
  letK ((IntKind.wrap .i32 i5) : Int) fun i6 =>
  letK ((IntKind.wrap .i64 i6) : Int) fun i7 =>
  some ((.int .i64 i7), h)
  ) := by kernel_rfl
theorem cf25 : cFn Try.prog 25 = some c25 := by kernel_rfl
theorem e25 (i0 : Int) (h : Heap) : E 25 [(.int .i64 i0)] h = (
  letK ((IntKind.wrap .u64 i0) : Int) fun i4 =>
  letK ((IntKind.wrap .u32 i4) : Int) fun i5 =>
  letK ((IntKind.wrap .i32 i5) : Int) fun i6 =>
  letK ((IntKind.wrap .i64 i6) : Int) fun i7 =>
  some ((.int .i64 i7), h)
  ) := (EV_eq (P := Try.prog) (T := T0) rfl cf25 [(.int .i64 i0)] h).trans (r25 mk0 E i0 h)
def k27x5 : AC := .ret
def k27x4 : AC := .seq (.mask 16) k27x5
def k27x3 : AC := .mask 3
def k27x2 : AC := .seq (.cond (.tmp 10)
   (.seq (.ops false [
      ⟨(some 4), .move (.c (.bool false)), none, []⟩]) k27x4)
   (.skip)) k27x3
def k27x13 : AC := .exit 0
def k27x12 : AC := .mask 12291
def k27x20 : AC := .ret
def k27x19 : AC := .seq (.mask 16) k27x20
def k27x18 : AC := .mask 12291
def k27x17 : AC := .seq (.cond (.tmp 24)
   (.seq (.ops false [
      ⟨(some 4), .move (.c (.bool false)), none, []⟩]) k27x19)
   (.skip)) k27x18
def k27x16 : AC := .seq (.ops false [
    ⟨(some 16), .move (.tmp 0), none, []⟩,
    ⟨(some 17), .move (.tmp 5), none, []⟩,
    ⟨(some 18), .indexAddr 1 (.tmp 16) (.tmp 17), none, []⟩,
    ⟨(some 19), .load (.cell (.int .i64)) (.tmp 18), none, []⟩,
    ⟨(some 20), .move (.tmp 1), none, []⟩,
    ⟨(some 21), .move (.tmp 5), none, []⟩,
    ⟨(some 22), .indexAddr 1 (.tmp 20) (.tmp 21), none, []⟩,
    ⟨(some 23), .load (.cell (.int .i64)) (.tmp 22), none, []⟩,
    ⟨(some 24), .bin .other .neq (.tmp 19) (.tmp 23), none, []⟩]) k27x17
def k27x15 : AC := .mask 12291
def k27x14 : AC := .ops false [
    ⟨(some 25), .bin .other .add (.tmp 13) (.c (.int .i64 1)), none, []⟩,
    ⟨(some 13), .move (.tmp 25), none, []⟩]
def k27x11 : AC := .seq (.seq (.block 1 (.seq (.ops false [
     ⟨(some 15), .move (.tmp 13), none, []⟩,
     ⟨(some 5), .move (.tmp 15), none, []⟩]) k27x16)) k27x15) k27x14
def k27x10 : AC := .seq (.seq (.cond (.tmp 14)
   (.skip)
   (.seq (.mask 0) k27x13)) k27x12) k27x11
def k27x9 : AC := .seq (.ops false [
    ⟨(some 14), .bin .other .lss (.tmp 13) (.tmp 12), none, []⟩]) k27x10
def k27x8 : AC := .mask 0
def k27x7 : AC := .seq (.block 0 (.loop 12291 0 k27x9)) k27x8
def k27x22 : AC := .ret
def k27x21 : AC := .seq (.mask 16) k27x22
def k27x6 : AC := .seq (.ops false [
    ⟨(some 4), .move (.c (.bool true)), none, []⟩]) k27x21
def k27x1 : AC := .seq (.seq (.ops false [
    ⟨(some 11), .move (.tmp 0), none, []⟩,
    ⟨(some 12), .lenSl (.tmp 11), none, []⟩,
    ⟨(some 13), .move (.c (.int .i64 0)), none, []⟩]) k27x7) k27x6
def k27x0 : AC := .seq (.seq (.ops false [
    ⟨(some 6), .move (.tmp 0), none, []⟩,
    ⟨(some 7), .lenSl (.tmp 6), none, []⟩,
    ⟨(some 8), .move (.tmp 1), none, []⟩,
    ⟨(some 9), .lenSl (.tmp 8), none, []⟩,
    ⟨(some 10), .bin .other .neq (.tmp 7) (.tmp 9), none, []⟩]) k27x2) k27x1
/-- slices.Equal[[]int,int] -/
def c27 : AFn := ⟨26, [.tmp 4],
  .seq (.ops false [
    ⟨(some 4), .move (.c (.bool false)), none, []⟩]) k27x0⟩
def S27xr (b4 : Bool) (h : Heap) : St := ⟨(rep 4 (.g [] true (.bool b4) :: (rep 21 []))), h⟩
def S27xe0 (h : Heap) : St := ⟨(rep 26 []), h⟩
noncomputable def Q27x9 (M : Mk) (C : Cal) : Kont (AV × Heap) := (blockQ 0 (seqQ (evalE M C k27x8) (seqQ (evalE M C k27x6) (endQ [.tmp 4]))))
noncomputable def L27x9 (s0 : SA) (n0 : Nat) (s1 : SA) (n1 : Nat) (i12 : Int) (i13 : Int) (h : Heap) (Q : Kont R) : Option R := loopE (evalE M C k27x9) 12291 0 ⟨(.g [] true (.sl s0 n0) :: (.g [] true (.sl s1 n1) :: (rep 10 (.g [] true (.int .i64 i12) :: (.g [] true (.int .i64 i13) :: (rep 12 [])))))), h⟩ Q
theorem r27 (s0 : SA) (n0 : Nat) (s1 : SA) (n1 : Nat) (h : Heap) : runE M C c27 [(.sl s0 n0), (.sl s1 n1)] h = (
  letK ((!decide ((((n0 : Nat) : Int) : Int) = ((n1 : Nat) : Int))) : Bool) fun b10 =>
  if b10 = true then
    (
    some ((.bool false), h)
    )
  else
    (
    L27x9 M C s0 n0 s1 n1 ((n0 : Nat) : Int) 0 h (Q27x9 M C)
    )
  ) := by kernel_rfl
theorem cf27 : cFn Try.prog 27 = some c27 := by kernel_rfl
theorem e27 (s0 : SA) (n0 : Nat) (s1 : SA) (n1 : Nat) (h : Heap) : E 27 [(.sl s0 n0), (.sl s1 n1)] h = (
  letK ((!decide ((((n0 : Nat) : Int) : Int) = ((n1 : Nat) : Int))) : Bool) fun b10 =>
  if b10 = true then
    (
    some ((.bool false), h)
    )
  else
    (
    L27x9 mk0 E s0 n0 s1 n1 ((n0 : Nat) : Int) 0 h (Q27x9 mk0 E)
    )
  ) := (EV_eq (P := Try.prog) (T := T0) rfl cf27 [(.sl s0 n0), (.sl s1 n1)] h).trans (r27 mk0 E s0 n0 s1 n1 h)
theorem L27x9xaux (s0 : SA) (n0 : Nat) (s1 : SA) (n1 : Nat) (i12 : Int) (i13 : Int) (h : Heap) (Q : Kont R) : (restrF 12291 ⟨(.g [] true (.sl s0 n0) :: (.g [] true (.sl s1 n1) :: (rep 10 (.g [] true (.int .i64 i12) :: (.g [] true (.int .i64 i13) :: (rep 12 [])))))), h⟩ fun σ => evalE M C k27x9 σ (roundQ M C k27x9 12291 0 Q)) = (
  letK ((decide ((i13 : Int) < i12)) : Bool) fun b14 =>
  if b14 = true then
    (
    chk (true = true → (0 : Int) ≤ i13 ∧ (i13 : Int) < ((n0 : Nat) : Int)) <|
    atP (adP s0) true fun a18 =>
    gI .i64 (ld1 h (Ad.add a18 (Int.toNat i13 * 1))) true fun i19 =>
    chk (true = true → (0 : Int) ≤ i13 ∧ (i13 : Int) < ((n1 : Nat) : Int)) <|
    atP (adP s1) true fun a22 =>
    gI .i64 (ld1 h (Ad.add a22 (Int.toNat i13 * 1))) true fun i23 =>
    letK ((!decide ((i19 : Int) = i23)) : Bool) fun b24 =>
    if b24 = true then
      (
      Q .ret (S27xr false h)
      )
    else
      (
      letK ((IntKind.wrap .i64 (i13 + 1)) : Int) fun i25 =>
      L27x9 M C s0 n0 s1 n1 i12 i25 h Q
      )
    )
  else
    (
    Q (.exit 0) (S27xe0 h)
    )
  ) := by kernel_rfl
theorem L27x9xeq (s0 : SA) (n0 : Nat) (s1 : SA) (n1 : Nat) (i12 : Int) (i13 : Int) (h : Heap) (Q : Kont R) : L27x9 mk0 C s0 n0 s1 n1 i12 i13 h Q = (
  letK ((decide ((i13 : Int) < i12)) : Bool) fun b14 =>
  if b14 = true then
    (
    chk (true = true → (0 : Int) ≤ i13 ∧ (i13 : Int) < ((n0 : Nat) : Int)) <|
    atP (adP s0) true fun a18 =>
    gI .i64 (ld1 h (Ad.add a18 (Int.toNat i13 * 1))) true fun i19 =>
    chk (true = true → (0 : Int) ≤ i13 ∧ (i13 : Int) < ((n1 : Nat) : Int)) <|
    atP (adP s1) true fun a22 =>
    gI .i64 (ld1 h (Ad.add a22 (Int.toNat i13 * 1))) true fun i23 =>
    letK ((!decide ((i19 : Int) = i23)) : Bool) fun b24 =>
    if b24 = true then
      (
      Q .ret (S27xr false h)
      )
    else
      (
      letK ((IntKind.wrap .i64 (i13 + 1)) : Int) fun i25 =>
      L27x9 mk0 C s0 n0 s1 n1 i12 i25 h Q
      )
    )
  else
    (
    Q (.exit 0) (S27xe0 h)
    )
  ) := loop_eqn C k27x9 12291 0 (.g [] true (.sl s0 n0) :: (.g [] true (.sl s1 n1) :: (rep 10 (.g [] true (.int .i64 i12) :: (.g [] true (.int .i64 i13) :: (rep 12 [])))))) h Q (by kernel_rfl) (L27x9xaux mk0 C s0 n0 s1 n1 i12 i13 h Q)
theorem X27x9xr (M : Mk) (C : Cal) (b4 : Bool) (h : Heap) : Q27x9 M C .ret (S27xr b4 h) = (
  some ((.bool b4), h)
  ) := by kernel_rfl
theorem X27x9xe0 (M : Mk) (C : Cal) (h : Heap) : Q27x9 M C (.exit 0) (S27xe0 h) = (
  some ((.bool true), h)
  ) := by kernel_rfl
def k37x5 : AC := .ret
def k37x4 : AC := .seq (.mask 48) k37x5
def k37x3 : AC := .mask 3
def k37x2 : AC := .seq (.cond (.tmp 22)
   (.seq (.ops false [
      ⟨(some 4), .move (.c (.int .i64 0)), none, []⟩,
      ⟨(some 5), .move (.c (.bool false)), none, []⟩]) k37x4)
   (.skip)) k37x3
def k37x7 : AC := .ret
def k37x6 : AC := .seq (.mask 48) k37x7
def k37x1 : AC := .seq (.ops false [
    ⟨(some 23), .move (.tmp 0), none, []⟩,
    ⟨(some 24), .nilCheck (.tmp 23), none, []⟩,
    ⟨(some 25), .fieldAddr 0 (.tmp 24), none, []⟩,
    ⟨(some 26), .load (.cell .sl) (.tmp 25), none, []⟩,
    ⟨(some 27), .move (.tmp 1), none, []⟩,
    ⟨(some 28), .bin .other .quo (.tmp 27) (.c (.int .i64 2)), none, []⟩,
    ⟨(some 29), .indexAddr 1 (.tmp 26) (.tmp 28), none, []⟩,
    ⟨(some 30), .load (.cell (.int .i64)) (.tmp 29), none, []⟩,
    ⟨(some 4), .move (.tmp 30), none, []⟩,
    ⟨(some 5), .move (.c (.bool true)), none, []⟩]) k37x6
def k37x0 : AC := .seq (.seq (.ops true [
    ⟨(some 6), .move (.tmp 1), none, []⟩,
    ⟨(some 7), .bin .other .rem (.tmp 6) (.c (.int .i64 2)), none, []⟩,
    ⟨(some 8), .bin .other .neq (.tmp 7) (.c (.int .i64 0)), none, []⟩,
    ⟨(some 9), .move (.tmp 8), none, []⟩,
    ⟨(some 10), .move (.tmp 1), (some (9, false)), []⟩,
    ⟨(some 11), .bin .other .lss (.tmp 10) (.c (.int .i64 2)), (some (9, false)), []⟩,
    ⟨(some 12), .pick (.tmp 9) (.c (.bool true)) (.tmp 11), none, []⟩,
    ⟨(some 13), .move (.tmp 12), none, []⟩,
    ⟨(some 14), .move (.tmp 1), (some (13, false)), []⟩,
    ⟨(some 15), .bin .other .quo (.tmp 14) (.c (.int .i64 2)), (some (13, false)), []⟩,
    ⟨(some 16), .move (.tmp 0), (some (13, false)), []⟩,
    ⟨(some 17), .nilCheck (.tmp 16), (some (13, false)), []⟩,
    ⟨(some 18), .fieldAddr 0 (.tmp 17), (some (13, false)), []⟩,
    ⟨(some 19), .load (.cell .sl) (.tmp 18), (some (13, false)), []⟩,
    ⟨(some 20), .lenSl (.tmp 19), (some (13, false)), []⟩,
    ⟨(some 21), .bin .other .geq (.tmp 15) (.tmp 20), (some (13, false)), []⟩,
    ⟨(some 22), .pick (.tmp 13) (.c (.bool true)) (.tmp 21), none, []⟩]) k37x2) k37x1
/-- (*provenance/provenanceref4.Mem).Get -/
def c37 : AFn := ⟨31, [.tmp 4, .tmp 5],
  .seq (.ops false [
    ⟨(some 4), .move (.c (.int .i64 0)), none, []⟩,
    ⟨(some 5), .move (.c (.bool false)), none, []⟩]) k37x0⟩
theorem r37 (p0 : Option Ad) (i1 : Int) (h : Heap) : runE M C c37 [(.ptr p0), (.int .i64 i1)] h = (
  letK ((Int.tmod i1 2) : Int) fun i7 =>
  letK ((!decide ((i7 : Int) = 0)) : Bool) fun b8 =>
  letK ((decide ((i1 : Int) < 2)) : Bool) fun b11 =>
  letK ((if b8 = true then true else b11) : Bool) fun b12 =>
  chk ((!b12) = true → (2 : Int) ≠ 0) <|
  letK ((IntKind.wrap .i64 (Int.tdiv i1 2)) : Int) fun i15 =>
  atP p0 (!b12) fun a17 =>
  atP (some a17) (!b12) fun a18 =>
  atP (some (Ad.add a18 0)) (!b12) fun a19 =>
  gL (ld1 h a19) (!b12) fun s19 n19 =>
  letK ((decide ((((n19 : Nat) : Int) : Int) ≤ i15)) : Bool) fun b21 =>
  letK ((if b12 = true then true else b21) : Bool) fun b22 =>
  if b22 = true then
    (
    some (.tup [(.int .i64 0), (.bool false)], h)
    )
  else
    (
    atP p0 true fun a24 =>
    gL (ld1 h (Ad.add a24 0)) true fun s26 n26 =>
    letK ((IntKind.wrap .i64 (Int.tdiv i1 2)) : Int) fun i28 =>
    chk (true = true → (0 : Int) ≤ i28 ∧ (i28 : Int) < ((n26 : Nat) : Int)) <|
    atP (adP s26) true fun a29 =>
    gI .i64 (ld1 h (Ad.add a29 (Int.toNat i28 * 1))) true fun i30 =>
    some (.tup [(.int .i64 i30), (.bool true)], h)
    )
  ) := by kernel_rfl
theorem cf37 : cFn Try.prog 37 = some c37 := by kernel_rfl
theorem e37 (p0 : Option Ad) (i1 : Int) (h : Heap) : E 37 [(.ptr p0), (.int .i64 i1)] h = (
  letK ((Int.tmod i1 2) : Int) fun i7 =>
  letK ((!decide ((i7 : Int) = 0)) : Bool) fun b8 =>
  letK ((decide ((i1 : Int) < 2)) : Bool) fun b11 =>
  letK ((if b8 = true then true else b11) : Bool) fun b12 =>
  chk ((!b12) = true → (2 : Int) ≠ 0) <|
  letK ((IntKind.wrap .i64 (Int.tdiv i1 2)) : Int) fun i15 =>
  atP p0 (!b12) fun a17 =>
  atP (some a17) (!b12) fun a18 =>
  atP (some (Ad.add a18 0)) (!b12) fun a19 =>
  gL (ld1 h a19) (!b12) fun s19 n19 =>
  letK ((decide ((((n19 : Nat) : Int) : Int) ≤ i15)) : Bool) fun b21 =>
  letK ((if b12 = true then true else b21) : Bool) fun b22 =>
  if b22 = true then
    (
    some (.tup [(.int .i64 0), (.bool false)], h)
    )
  else
    (
    atP p0 true fun a24 =>
    gL (ld1 h (Ad.add a24 0)) true fun s26 n26 =>
    letK ((IntKind.wrap .i64 (Int.tdiv i1 2)) : Int) fun i28 =>
    chk (true = true → (0 : Int) ≤ i28 ∧ (i28 : Int) < ((n26 : Nat) : Int)) <|
    atP (adP s26) true fun a29 =>
    gI .i64 (ld1 h (Ad.add a29 (Int.toNat i28 * 1))) true fun i30 =>
    some (.tup [(.int .i64 i30), (.bool true)], h)
    )
  ) := (EV_eq (P := Try.prog) (T := T0) rfl cf37 [(.ptr p0), (.int .i64 i1)] h).trans (r37 mk0 E p0 i1 h)
def k38x6 : AC := .ret
def k38x5 : AC := .seq (.mask 64) k38x6
def k38x4 : AC := .mask 7
def k38x3 : AC := .seq (.cond (.tmp 16)
   (.seq (.ops false [
      ⟨(some 6), .move (.c (.bool false)), none, []⟩]) k38x5)
   (.skip)) k38x4
def k38x2 : AC := .seq (.ops false [
    ⟨(some 15), .move (.tmp 8), none, []⟩,
    ⟨(some 16), .un .not (.tmp 15), none, []⟩]) k38x3
def k38x9 : AC := .ret
def k38x8 : AC := .seq (.mask 64) k38x9
def k38x7 : AC := .seq (.ops false [
    ⟨(some 6), .move (.c (.bool true)), none, []⟩]) k38x8
def k38x1 : AC := .seq (.ops false [
    ⟨(some 17), .move (.tmp 0), none, []⟩,
    ⟨(some 18), .nilCheck (.tmp 17), none, []⟩,
    ⟨(some 19), .fieldAddr 0 (.tmp 18), none, []⟩,
    ⟨(some 20), .load (.cell .sl) (.tmp 19), none, []⟩,
    ⟨(some 21), .move (.tmp 1), none, []⟩,
    ⟨(some 22), .bin .other .quo (.tmp 21) (.c (.int .i64 2)), none, []⟩,
    ⟨(some 23), .move (.tmp 2), none, []⟩,
    ⟨(some 24), .indexAddr 1 (.tmp 20) (.tmp 22), none, []⟩,
    ⟨none, .store 1 (.tmp 24) (.tmp 23), none, []⟩]) k38x7
def k38x0 : AC := .seq (.seq (.ops false [
    ⟨(some 10), .move (.tmp 0), none, []⟩,
    ⟨(some 11), .move (.tmp 1), none, []⟩,
    ⟨(some 12), .call 37 [(.tmp 10), (.tmp 11)] [(.cell (.int .i64)), (.cell .bool)] .opq, none, []⟩,
    ⟨(some 9), .move (.tmp 12), none, []⟩,
    ⟨(some 13), .extract (.tmp 9) 0, none, []⟩,
    ⟨(some 14), .extract (.tmp 9) 1, none, []⟩,
    ⟨(some 7), .move (.tmp 13), none, []⟩,
    ⟨(some 8), .move (.tmp 14), none, []⟩]) k38x2) k38x1
/-- (*provenance/provenanceref4.Mem).Set -/
def c38 : AFn := ⟨25, [.tmp 6],
  .seq (.ops false [
    ⟨(some 6), .move (.c (.bool false)), none, []⟩]) k38x0⟩
theorem r38 (p0 : Option Ad) (i1 : Int) (i2 : Int) (h : Heap) : runE M C c38 [(.ptr p0), (.int .i64 i1), (.int .i64 i2)] h = (
  (C 37 [(.ptr p0), (.int .i64 i1)] h).bind fun r12 =>
  gT 2 r12.1 true fun u12 =>
  gI .i64 (some (List.getD u12 0 .opq)) true fun i12x0 =>
  gB (some (List.getD u12 1 .opq)) true fun b12x1 =>
  if (!b12x1) = true then
    (
    some ((.bool false), r12.2)
    )
  else
    (
    atP p0 true fun a18 =>
    gL (ld1 r12.2 (Ad.add a18 0)) true fun s20 n20 =>
    letK ((IntKind.wrap .i64 (Int.tdiv i1 2)) : Int) fun i22 =>
    chk (true = true → (0 : Int) ≤ i22 ∧ (i22 : Int) < ((n20 : Nat) : Int)) <|
    atP (adP s20) true fun a24 =>
    (st1 r12.2 (Ad.add a24 (Int.toNat i22 * 1)) (.int .i64 i2)).bind fun h_2 =>
    some ((.bool true), h_2)
    )
  ) := by kernel_rfl
theorem cf38 : cFn Try.prog 38 = some c38 := by kernel_rfl
theorem e38 (p0 : Option Ad) (i1 : Int) (i2 : Int) (h : Heap) : E 38 [(.ptr p0), (.int .i64 i1), (.int .i64 i2)] h = (
  (E 37 [(.ptr p0), (.int .i64 i1)] h).bind fun r12 =>
  gT 2 r12.1 true fun u12 =>
  gI .i64 (some (List.getD u12 0 .opq)) true fun i12x0 =>
  gB (some (List.getD u12 1 .opq)) true fun b12x1 =>
  if (!b12x1) = true then
    (
    some ((.bool false), r12.2)
    )
  else
    (
    atP p0 true fun a18 =>
    gL (ld1 r12.2 (Ad.add a18 0)) true fun s20 n20 =>
    letK ((IntKind.wrap .i64 (Int.tdiv i1 2)) : Int) fun i22 =>
    chk (true = true → (0 : Int) ≤ i22 ∧ (i22 : Int) < ((n20 : Nat) : Int)) <|
    atP (adP s20) true fun a24 =>
    (st1 r12.2 (Ad.add a24 (Int.toNat i22 * 1)) (.int .i64 i2)).bind fun h_2 =>
    some ((.bool true), h_2)
    )
  ) := (EV_eq (P := Try.prog) (T := T0) rfl cf38 [(.ptr p0), (.int .i64 i1), (.int .i64 i2)] h).trans (r38 mk0 E p0 i1 i2 h)
def k39x7 : AC := .ret
def k39x6 : AC := .seq (.mask 768) k39x7
def k39x11 : AC := .ret
def k39x10 : AC := .seq (.mask 768) k39x11
def k39x15 : AC := .ret
def k39x14 : AC := .seq (.mask 768) k39x15
def k39x18 : AC := .join 536871951
def k39x17 : AC := .seq (.cond (.tmp 29)
   (.skip)
   (.ops false [
      ⟨(some 31), .bin .other .eql (.tmp 10) (.c (.int .i64 5)), none, []⟩,
      ⟨(some 29), .move (.tmp 31), none, []⟩])) k39x18
def k39x25 : AC := .ret
def k39x24 : AC := .seq (.mask 768) k39x25
def k39x23 : AC := .mask 7
def k39x22 : AC := .seq (.cond (.tmp 33)
   (.seq (.ops false [
      ⟨(some 8), .move (.c (.int .i64 0)), none, []⟩,
      ⟨(some 9), .move (.c (.bool false)), none, []⟩]) k39x24)
   (.skip)) k39x23
def k39x30 : AC := .ret
def k39x29 : AC := .seq (.mask 768) k39x30
def k39x28 : AC := .mask 6
def k39x27 : AC := .seq (.cond (.tmp 35)
   (.seq (.ops false [
      ⟨(some 36), .move (.tmp 1), none, []⟩,
      ⟨(some 37), .move (.tmp 2), none, []⟩,
      ⟨(some 38), .bin .other .quo (.tmp 36) (.tmp 37), none, []⟩,
      ⟨(some 39), .call 25 [(.tmp 38)] [(.cell (.int .i64))] (.int .i64 0), none, []⟩,
      ⟨(some 8), .move (.tmp 39), none, []⟩,
      ⟨(some 9), .move (.c (.bool true)), none, []⟩]) k39x29)
   (.skip)) k39x28
def k39x32 : AC := .ret
def k39x31 : AC := .seq (.mask 768) k39x32
def k39x26 : AC := .seq (.ops false [
    ⟨(some 40), .move (.tmp 1), none, []⟩,
    ⟨(some 41), .move (.tmp 1), none, []⟩,
    ⟨(some 42), .move (.tmp 2), none, []⟩,
    ⟨(some 43), .bin .other .quo (.tmp 41) (.tmp 42), none, []⟩,
    ⟨(some 44), .move (.tmp 2), none, []⟩,
    ⟨(some 45), .bin .other .mul (.tmp 43) (.tmp 44), none, []⟩,
    ⟨(some 46), .bin .other .sub (.tmp 40) (.tmp 45), none, []⟩,
    ⟨(some 47), .call 25 [(.tmp 46)] [(.cell (.int .i64))] (.int .i64 0), none, []⟩,
    ⟨(some 8), .move (.tmp 47), none, []⟩,
    ⟨(some 9), .move (.c (.bool true)), none, []⟩]) k39x31
def k39x21 : AC := .seq (.seq (.ops false [
    ⟨(some 34), .move (.tmp 0), none, []⟩,
    ⟨(some 35), .bin .other .eql (.tmp 34) (.c (.int .i64 4)), none, []⟩]) k39x27) k39x26
def k39x39 : AC := .ret
def k39x38 : AC := .seq (.mask 768) k39x39
def k39x37 : AC := .mask 0
def k39x36 : AC := .seq (.cond (.tmp 52)
   (.seq (.ops false [
      ⟨(some 8), .move (.c (.int .i64 1)), none, []⟩,
      ⟨(some 9), .move (.c (.bool true)), none, []⟩]) k39x38)
   (.skip)) k39x37
def k39x41 : AC := .ret
def k39x40 : AC := .seq (.mask 768) k39x41
def k39x35 : AC := .seq (.ops false [
    ⟨(some 8), .move (.c (.int .i64 0)), none, []⟩,
    ⟨(some 9), .move (.c (.bool true)), none, []⟩]) k39x40
def k39x48 : AC := .ret
def k39x47 : AC := .seq (.mask 768) k39x48
def k39x46 : AC := .mask 0
def k39x45 : AC := .seq (.cond (.tmp 57)
   (.seq (.ops false [
      ⟨(some 8), .move (.c (.int .i64 1)), none, []⟩,
      ⟨(some 9), .move (.c (.bool true)), none, []⟩]) k39x47)
   (.skip)) k39x46
def k39x50 : AC := .ret
def k39x49 : AC := .seq (.mask 768) k39x50
def k39x44 : AC := .seq (.ops false [
    ⟨(some 8), .move (.c (.int .i64 0)), none, []⟩,
    ⟨(some 9), .move (.c (.bool true)), none, []⟩]) k39x49
def k39x54 : AC := .ret
def k39x53 : AC := .seq (.mask 768) k39x54
def k39x64 : AC := .exit 1
def k39x63 : AC := .mask 221360928884514619394
def k39x66 : AC := .mask 221360928884514619394
def k39x65 : AC := .ops false [
    ⟨(some 73), .bin .other .add (.tmp 67) (.c (.int .i64 1)), none, []⟩,
    ⟨(some 67), .move (.tmp 73), none, []⟩]
def k39x62 : AC := .seq (.seq (.block 2 (.ops false [
     ⟨(some 69), .move (.tmp 1), none, []⟩,
     ⟨(some 70), .move (.tmp 1), none, []⟩,
     ⟨(some 71), .bin .other .add (.tmp 69) (.tmp 70), none, []⟩,
     ⟨(some 72), .call 25 [(.tmp 71)] [(.cell (.int .i64))] (.int .i64 0), none, []⟩,
     ⟨(some 1), .move (.tmp 72), none, []⟩])) k39x66) k39x65
def k39x61 : AC := .seq (.seq (.cond (.tmp 68)
   (.skip)
   (.seq (.mask 2) k39x64)) k39x63) k39x62
def k39x60 : AC := .seq (.ops false [
    ⟨(some 68), .bin .other .lss (.tmp 67) (.tmp 66), none, []⟩]) k39x61
def k39x59 : AC := .mask 2
def k39x58 : AC := .seq (.block 1 (.loop 221360928884514619394 10 k39x60)) k39x59
def k39x68 : AC := .ret
def k39x67 : AC := .seq (.mask 768) k39x68
def k39x57 : AC := .seq (.ops false [
    ⟨(some 74), .move (.tmp 1), none, []⟩,
    ⟨(some 8), .move (.tmp 74), none, []⟩,
    ⟨(some 9), .move (.c (.bool true)), none, []⟩]) k39x67
def k39x78 : AC := .exit 3
def k39x77 : AC := .mask 453347182355485940514818
def k39x80 : AC := .mask 453347182355485940514818
def k39x79 : AC := .ops false [
    ⟨(some 85), .bin .other .add (.tmp 78) (.c (.int .i64 1)), none, []⟩,
    ⟨(some 78), .move (.tmp 85), none, []⟩]
def k39x76 : AC := .seq (.seq (.block 4 (.ops false [
     ⟨(some 80), .move (.tmp 1), none, []⟩,
     ⟨(some 81), .move (.tmp 1), none, []⟩,
     ⟨(some 82), .call 31 [(.tmp 81), (.c (.int .i64 2))] [(.cell (.int .i64))] (.int .i64 0), none, []⟩,
     ⟨(some 83), .bin .other .sub (.tmp 80) (.tmp 82), none, []⟩,
     ⟨(some 84), .bin .other .quo (.tmp 83) (.c (.int .i64 2)), none, []⟩,
     ⟨(some 1), .move (.tmp 84), none, []⟩])) k39x80) k39x79
def k39x75 : AC := .seq (.seq (.cond (.tmp 79)
   (.skip)
   (.seq (.mask 2) k39x78)) k39x77) k39x76
def k39x74 : AC := .seq (.ops false [
    ⟨(some 79), .bin .other .lss (.tmp 78) (.tmp 77), none, []⟩]) k39x75
def k39x73 : AC := .mask 2
def k39x72 : AC := .seq (.block 3 (.loop 453347182355485940514818 10 k39x74)) k39x73
def k39x82 : AC := .ret
def k39x81 : AC := .seq (.mask 768) k39x82
def k39x71 : AC := .seq (.ops false [
    ⟨(some 86), .move (.tmp 1), none, []⟩,
    ⟨(some 8), .move (.tmp 86), none, []⟩,
    ⟨(some 9), .move (.c (.bool true)), none, []⟩]) k39x81
def k39x70 : AC := .mask 8
def k39x69 : AC := .seq (.cond (.tmp 75)
   (.seq (.seq (.ops false [
      ⟨(some 77), .move (.tmp 3), none, []⟩,
      ⟨(some 78), .move (.c (.int .i64 0)), none, []⟩]) k39x72) k39x71)
   (.skip)) k39x70
def k39x56 : AC := .mask 8
def k39x55 : AC := .seq (.cond (.tmp 64)
   (.seq (.seq (.ops false [
      ⟨(some 66), .move (.tmp 3), none, []⟩,
      ⟨(some 67), .move (.c (.int .i64 0)), none, []⟩]) k39x58) k39x57)
   (.seq (.ops false [
      ⟨(some 76), .bin .other .eql (.tmp 10) (.c (.int .i64 10)), none, []⟩,
      ⟨(some 75), .move (.tmp 76), none, []⟩]) k39x69)) k39x56
def k39x52 : AC := .mask 8
def k39x51 : AC := .seq (.cond (.tmp 58)
   (.seq (.ops false [
      ⟨(some 60), .move (.tmp 1), none, []⟩,
      ⟨(some 61), .move (.tmp 3), none, []⟩,
      ⟨(some 62), .bin .other .add (.tmp 60) (.tmp 61), none, []⟩,
      ⟨(some 63), .call 25 [(.tmp 62)] [(.cell (.int .i64))] (.int .i64 0), none, []⟩,
      ⟨(some 8), .move (.tmp 63), none, []⟩,
      ⟨(some 9), .move (.c (.bool true)), none, []⟩]) k39x53)
   (.seq (.ops false [
      ⟨(some 65), .bin .other .eql (.tmp 10) (.c (.int .i64 9)), none, []⟩,
      ⟨(some 64), .move (.tmp 65), none, []⟩]) k39x55)) k39x52
def k39x43 : AC := .mask 8
def k39x42 : AC := .seq (.cond (.tmp 53)
   (.seq (.seq (.ops false [
      ⟨(some 55), .move (.tmp 1), none, []⟩,
      ⟨(some 56), .move (.tmp 2), none, []⟩,
      ⟨(some 57), .bin .other .eql (.tmp 55) (.tmp 56), none, []⟩]) k39x45) k39x44)
   (.seq (.ops false [
      ⟨(some 59), .bin .other .eql (.tmp 10) (.c (.int .i64 8)), none, []⟩,
      ⟨(some 58), .move (.tmp 59), none, []⟩]) k39x51)) k39x43
def k39x34 : AC := .mask 8
def k39x33 : AC := .seq (.cond (.tmp 48)
   (.seq (.seq (.ops false [
      ⟨(some 50), .move (.tmp 1), none, []⟩,
      ⟨(some 51), .move (.tmp 2), none, []⟩,
      ⟨(some 52), .bin .other .lss (.tmp 50) (.tmp 51), none, []⟩]) k39x36) k39x35)
   (.seq (.ops false [
      ⟨(some 54), .bin .other .eql (.tmp 10) (.c (.int .i64 7)), none, []⟩,
      ⟨(some 53), .move (.tmp 54), none, []⟩]) k39x42)) k39x34
def k39x20 : AC := .mask 8
def k39x16 : AC := .seq (.cond (.tmp 29)
   (.seq (.seq (.ops false [
      ⟨(some 32), .move (.tmp 2), none, []⟩,
      ⟨(some 33), .bin .other .eql (.tmp 32) (.c (.int .i64 0)), none, []⟩]) k39x22) k39x21)
   (.seq (.ops false [
      ⟨(some 49), .bin .other .eql (.tmp 10) (.c (.int .i64 6)), none, []⟩,
      ⟨(some 48), .move (.tmp 49), none, []⟩]) k39x33)) k39x20
def k39x13 : AC := .mask 8
def k39x12 : AC := .seq (.cond (.tmp 23)
   (.seq (.ops false [
      ⟨(some 25), .move (.tmp 1), none, []⟩,
      ⟨(some 26), .move (.tmp 2), none, []⟩,
      ⟨(some 27), .bin .other .mul (.tmp 25) (.tmp 26), none, []⟩,
      ⟨(some 28), .call 25 [(.tmp 27)] [(.cell (.int .i64))] (.int .i64 0), none, []⟩,
      ⟨(some 8), .move (.tmp 28), none, []⟩,
      ⟨(some 9), .move (.c (.bool true)), none, []⟩]) k39x14)
   (.seq (.seq (.ops false [
      ⟨(some 30), .bin .other .eql (.tmp 10) (.c (.int .i64 4)), none, []⟩,
      ⟨(some 29), .move (.tmp 30), none, []⟩]) k39x17) k39x16)) k39x13
def k39x9 : AC := .mask 8
def k39x8 : AC := .seq (.cond (.tmp 17)
   (.seq (.ops false [
      ⟨(some 19), .move (.tmp 1), none, []⟩,
      ⟨(some 20), .move (.tmp 2), none, []⟩,
      ⟨(some 21), .bin .other .sub (.tmp 19) (.tmp 20), none, []⟩,
      ⟨(some 22), .call 25 [(.tmp 21)] [(.cell (.int .i64))] (.int .i64 0), none, []⟩,
      ⟨(some 8), .move (.tmp 22), none, []⟩,
      ⟨(some 9), .move (.c (.bool true)), none, []⟩]) k39x10)
   (.seq (.ops false [
      ⟨(some 24), .bin .other .eql (.tmp 10) (.c (.int .i64 3)), none, []⟩,
      ⟨(some 23), .move (.tmp 24), none, []⟩]) k39x12)) k39x9
def k39x5 : AC := .mask 8
def k39x4 : AC := .seq (.cond (.tmp 11)
   (.seq (.ops false [
      ⟨(some 13), .move (.tmp 1), none, []⟩,
      ⟨(some 14), .move (.tmp 2), none, []⟩,
      ⟨(some 15), .bin .other .add (.tmp 13) (.tmp 14), none, []⟩,
      ⟨(some 16), .call 25 [(.tmp 15)] [(.cell (.int .i64))] (.int .i64 0), none, []⟩,
      ⟨(some 8), .move (.tmp 16), none, []⟩,
      ⟨(some 9), .move (.c (.bool true)), none, []⟩]) k39x6)
   (.seq (.ops false [
      ⟨(some 18), .bin .other .eql (.tmp 10) (.c (.int .i64 2)), none, []⟩,
      ⟨(some 17), .move (.tmp 18), none, []⟩]) k39x8)) k39x5
def k39x3 : AC := .mask 8
def k39x2 : AC := .seq (.block 0 (.seq (.ops false [
     ⟨(some 12), .bin .other .eql (.tmp 10) (.c (.int .i64 1)), none, []⟩,
     ⟨(some 11), .move (.tmp 12), none, []⟩]) k39x4)) k39x3
def k39x84 : AC := .ret
def k39x83 : AC := .seq (.mask 768) k39x84
def k39x1 : AC := .seq (.ops false [
    ⟨(some 87), .move (.tmp 3), none, []⟩,
    ⟨(some 8), .move (.tmp 87), none, []⟩,
    ⟨(some 9), .move (.c (.bool true)), none, []⟩]) k39x83
def k39x0 : AC := .seq (.seq (.ops false [
    ⟨(some 10), .move (.tmp 0), none, []⟩]) k39x2) k39x1
/-- provenance/provenanceref4.Math -/
def c39 : AFn := ⟨88, [.tmp 8, .tmp 9],
  .seq (.ops false [
    ⟨(some 8), .move (.c (.int .i64 0)), none, []⟩,
    ⟨(some 9), .move (.c (.bool false)), none, []⟩]) k39x0⟩
def S39xe1 (i1 : Int) (h : Heap) : St := ⟨(.any :: (.g [] true (.int .i64 i1) :: (rep 86 []))), h⟩
def S39xe3 (i1 : Int) (h : Heap) : St := ⟨(.any :: (.g [] true (.int .i64 i1) :: (rep 86 []))), h⟩
noncomputable def J39x19 (M : Mk) (C : Cal) (i0 : Int) (i1 : Int) (i2 : Int) (i3 : Int) (i10 : Int) (b29 : Bool) (h : Heap) : Res := M (AV × Heap) (seqQ (evalE M C k39x16) (seqQ (evalE M C k39x13) (seqQ (evalE M C k39x9) (seqQ (evalE M C k39x5) (blockQ 0 (seqQ (evalE M C k39x3) (seqQ (evalE M C k39x1) (endQ [.tmp 8, .tmp 9])))))))) (.g [] true (.int .i64 i0) :: (.g [] true (.int .i64 i1) :: (.g [] true (.int .i64 i2) :: (.g [] true (.int .i64 i3) :: (rep 6 (.g [] true (.int .i64 i10) :: (rep 18 (.g [] true (.bool b29) :: (rep 58 []))))))))) h
noncomputable def Q39x60 (M : Mk) (C : Cal) : Kont (AV × Heap) := (blockQ 1 (seqQ (evalE M C k39x59) (seqQ (evalE M C k39x57) (seqQ (evalE M C k39x56) (seqQ (evalE M C k39x52) (seqQ (evalE M C k39x43) (seqQ (evalE M C k39x34) (seqQ (evalE M C k39x20) (seqQ (evalE M C k39x13) (seqQ (evalE M C k39x9) (seqQ (evalE M C k39x5) (blockQ 0 (seqQ (evalE M C k39x3) (seqQ (evalE M C k39x1) (endQ [.tmp 8, .tmp 9])))))))))))))))
noncomputable def L39x60 (i1 : Int) (i66 : Int) (i67 : Int) (h : Heap) (Q : Kont R) : Option R := loopE (evalE M C k39x60) 221360928884514619394 10 ⟨(.any :: (.g [] true (.int .i64 i1) :: (rep 64 (.g [] true (.int .i64 i66) :: (.g [] true (.int .i64 i67) :: (rep 20 [])))))), h⟩ Q
noncomputable def Q39x74 (M : Mk) (C : Cal) : Kont (AV × Heap) := (blockQ 3 (seqQ (evalE M C k39x73) (seqQ (evalE M C k39x71) (seqQ (evalE M C k39x70) (seqQ (evalE M C k39x56) (seqQ (evalE M C k39x52) (seqQ (evalE M C k39x43) (seqQ (evalE M C k39x34) (seqQ (evalE M C k39x20) (seqQ (evalE M C k39x13) (seqQ (evalE M C k39x9) (seqQ (evalE M C k39x5) (blockQ 0 (seqQ (evalE M C k39x3) (seqQ (evalE M C k39x1) (endQ [.tmp 8, .tmp 9]))))))))))))))))
noncomputable def L39x74 (i1 : Int) (i77 : Int) (i78 : Int) (h : Heap) (Q : Kont R) : Option R := loopE (evalE M C k39x74) 453347182355485940514818 10 ⟨(.any :: (.g [] true (.int .i64 i1) :: (rep 75 (.g [] true (.int .i64 i77) :: (.g [] true (.int .i64 i78) :: (rep 9 [])))))), h⟩ Q
theorem r39 (i0 : Int) (i1 : Int) (i2 : Int) (i3 : Int) (h : Heap) : runE M C c39 [(.int .i64 i0), (.int .i64 i1), (.int .i64 i2), (.int .i64 i3)] h = (
  letK ((decide ((i0 : Int) = 1)) : Bool) fun b12 =>
  if b12 = true then
    (
    letK ((IntKind.wrap .i64 (i1 + i2)) : Int) fun i15 =>
    (C 25 [(.int .i64 i15)] h).bind fun r16 =>
    gI .i64 (some r16.1) true fun i16 =>
    some (.tup [(.int .i64 i16), (.bool true)], r16.2)
    )
  else
    (
    letK ((decide ((i0 : Int) = 2)) : Bool) fun b18 =>
    if b18 = true then
      (
      letK ((IntKind.wrap .i64 (i1 - i2)) : Int) fun i21 =>
      (C 25 [(.int .i64 i21)] h).bind fun r22 =>
      gI .i64 (some r22.1) true fun i22 =>
      some (.tup [(.int .i64 i22), (.bool true)], r22.2)
      )
    else
      (
      letK ((decide ((i0 : Int) = 3)) : Bool) fun b24 =>
      if b24 = true then
        (
        letK ((IntKind.wrap .i64 (i1 * i2)) : Int) fun i27 =>
        (C 25 [(.int .i64 i27)] h).bind fun r28 =>
        gI .i64 (some r28.1) true fun i28 =>
        some (.tup [(.int .i64 i28), (.bool true)], r28.2)
        )
      else
        (
        letK ((decide ((i0 : Int) = 4)) : Bool) fun b30 =>
        if b30 = true then
          (
          J39x19 M C i0 i1 i2 i3 i0 b30 h
          )
        else
          (
          letK ((decide ((i0 : Int) = 5)) : Bool) fun b31 =>
          J39x19 M C i0 i1 i2 i3 i0 b31 h
          )
        )
      )
    )
  ) := by kernel_rfl
theorem cf39 : cFn Try.prog 39 = some c39 := by kernel_rfl
theorem e39 (i0 : Int) (i1 : Int) (i2 : Int) (i3 : Int) (h : Heap) : E 39 [(.int .i64 i0), (.int .i64 i1), (.int .i64 i2), (.int .i64 i3)] h = (
  letK ((decide ((i0 : Int) = 1)) : Bool) fun b12 =>
  if b12 = true then
    (
    letK ((IntKind.wrap .i64 (i1 + i2)) : Int) fun i15 =>
    (E 25 [(.int .i64 i15)] h).bind fun r16 =>
    gI .i64 (some r16.1) true fun i16 =>
    some (.tup [(.int .i64 i16), (.bool true)], r16.2)
    )
  else
    (
    letK ((decide ((i0 : Int) = 2)) : Bool) fun b18 =>
    if b18 = true then
      (
      letK ((IntKind.wrap .i64 (i1 - i2)) : Int) fun i21 =>
      (E 25 [(.int .i64 i21)] h).bind fun r22 =>
      gI .i64 (some r22.1) true fun i22 =>
      some (.tup [(.int .i64 i22), (.bool true)], r22.2)
      )
    else
      (
      letK ((decide ((i0 : Int) = 3)) : Bool) fun b24 =>
      if b24 = true then
        (
        letK ((IntKind.wrap .i64 (i1 * i2)) : Int) fun i27 =>
        (E 25 [(.int .i64 i27)] h).bind fun r28 =>
        gI .i64 (some r28.1) true fun i28 =>
        some (.tup [(.int .i64 i28), (.bool true)], r28.2)
        )
      else
        (
        letK ((decide ((i0 : Int) = 4)) : Bool) fun b30 =>
        if b30 = true then
          (
          J39x19 mk0 E i0 i1 i2 i3 i0 b30 h
          )
        else
          (
          letK ((decide ((i0 : Int) = 5)) : Bool) fun b31 =>
          J39x19 mk0 E i0 i1 i2 i3 i0 b31 h
          )
        )
      )
    )
  ) := (EV_eq (P := Try.prog) (T := T0) rfl cf39 [(.int .i64 i0), (.int .i64 i1), (.int .i64 i2), (.int .i64 i3)] h).trans (r39 mk0 E i0 i1 i2 i3 h)
theorem J39x19xaux (M : Mk) (C : Cal) (i0 : Int) (i1 : Int) (i2 : Int) (i3 : Int) (i10 : Int) (b29 : Bool) (h : Heap) : (forceK tk (.g [] true (.int .i64 i0) :: (.g [] true (.int .i64 i1) :: (.g [] true (.int .i64 i2) :: (.g [] true (.int .i64 i3) :: (rep 6 (.g [] true (.int .i64 i10) :: (rep 18 (.g [] true (.bool b29) :: (rep 58 []))))))))) fun e => (seqQ (evalE M C k39x16) (seqQ (evalE M C k39x13) (seqQ (evalE M C k39x9) (seqQ (evalE M C k39x5) (blockQ 0 (seqQ (evalE M C k39x3) (seqQ (evalE M C k39x1) (endQ [.tmp 8, .tmp 9])))))))) .normal ⟨e, h⟩) = (
  if b29 = true then
    (
    letK ((decide ((i2 : Int) = 0)) : Bool) fun b33 =>
    if b33 = true then
      (
      some (.tup [(.int .i64 0), (.bool false)], h)
      )
    else
      (
      letK ((decide ((i0 : Int) = 4)) : Bool) fun b35 =>
      if b35 = true then
        (
        chk (true = true → (i2 : Int) ≠ 0) <|
        letK ((IntKind.wrap .i64 (Int.tdiv i1 i2)) : Int) fun i38 =>
        (C 25 [(.int .i64 i38)] h).bind fun r39 =>
        gI .i64 (some r39.1) true fun i39 =>
        some (.tup [(.int .i64 i39), (.bool true)], r39.2)
        )
      else
        (
        chk (true = true → (i2 : Int) ≠ 0) <|
        letK ((IntKind.wrap .i64 (Int.tdiv i1 i2)) : Int) fun i43 =>
        letK ((IntKind.wrap .i64 (i43 * i2)) : Int) fun i45 =>
        letK ((IntKind.wrap .i64 (i1 - i45)) : Int) fun i46 =>
        (C 25 [(.int .i64 i46)] h).bind fun r47 =>
        gI .i64 (some r47.1) true fun i47 =>
        some (.tup [(.int .i64 i47), (.bool true)], r47.2)
        )
      )
    )
  else
    (
    letK ((decide ((i10 : Int) = 6)) : Bool) fun b49 =>
    if b49 = true then
      (
      letK ((decide ((i1 : Int) < i2)) : Bool) fun b52 =>
      if b52 = true then
        (
        some (.tup [(.int .i64 1), (.bool true)], h)
        )
      else
        (
        some (.tup [(.int .i64 0), (.bool true)], h)
        )
      )
    else
      (
      letK ((decide ((i10 : Int) = 7)) : Bool) fun b54 =>
      if b54 = true then
        (
        letK ((decide ((i1 : Int) = i2)) : Bool) fun b57 =>
        if b57 = true then
          (
          some (.tup [(.int .i64 1), (.bool true)], h)
          )
        else
          (
          some (.tup [(.int .i64 0), (.bool true)], h)
          )
        )
      else
        (
        letK ((decide ((i10 : Int) = 8)) : Bool) fun b59 =>
        if b59 = true then
          (
          letK ((IntKind.wrap .i64 (i1 + i3)) : Int) fun i62 =>
          (C 25 [(.int .i64 i62)] h).bind fun r63 =>
          gI .i64 (some r63.1) true fun i63 =>
          some (.tup [(.int .i64 i63), (.bool true)], r63.2)
          )
        else
          (
          letK ((decide ((i10 : Int) = 9)) : Bool) fun b65 =>
          if b65 = true then
            (
            L39x60 M C i1 i3 0 h (Q39x60 M C)
            )
          else
            (
            letK ((decide ((i10 : Int) = 10)) : Bool) fun b76 =>
            if b76 = true then
              (
              L39x74 M C i1 i3 0 h (Q39x74 M C)
              )
            else
              (
              some (.tup [(.int .i64 i3), (.bool true)], h)
              )
            )
          )
        )
      )
    )
  ) := by kernel_rfl
theorem J39x19xeq (C : Cal) (i0 : Int) (i1 : Int) (i2 : Int) (i3 : Int) (i10 : Int) (b29 : Bool) (h : Heap) : J39x19 mk0 C i0 i1 i2 i3 i10 b29 h = (
  if b29 = true then
    (
    letK ((decide ((i2 : Int) = 0)) : Bool) fun b33 =>
    if b33 = true then
      (
      some (.tup [(.int .i64 0), (.bool false)], h)
      )
    else
      (
      letK ((decide ((i0 : Int) = 4)) : Bool) fun b35 =>
      if b35 = true then
        (
        chk (true = true → (i2 : Int) ≠ 0) <|
        letK ((IntKind.wrap .i64 (Int.tdiv i1 i2)) : Int) fun i38 =>
        (C 25 [(.int .i64 i38)] h).bind fun r39 =>
        gI .i64 (some r39.1) true fun i39 =>
        some (.tup [(.int .i64 i39), (.bool true)], r39.2)
        )
      else
        (
        chk (true = true → (i2 : Int) ≠ 0) <|
        letK ((IntKind.wrap .i64 (Int.tdiv i1 i2)) : Int) fun i43 =>
        letK ((IntKind.wrap .i64 (i43 * i2)) : Int) fun i45 =>
        letK ((IntKind.wrap .i64 (i1 - i45)) : Int) fun i46 =>
        (C 25 [(.int .i64 i46)] h).bind fun r47 =>
        gI .i64 (some r47.1) true fun i47 =>
        some (.tup [(.int .i64 i47), (.bool true)], r47.2)
        )
      )
    )
  else
    (
    letK ((decide ((i10 : Int) = 6)) : Bool) fun b49 =>
    if b49 = true then
      (
      letK ((decide ((i1 : Int) < i2)) : Bool) fun b52 =>
      if b52 = true then
        (
        some (.tup [(.int .i64 1), (.bool true)], h)
        )
      else
        (
        some (.tup [(.int .i64 0), (.bool true)], h)
        )
      )
    else
      (
      letK ((decide ((i10 : Int) = 7)) : Bool) fun b54 =>
      if b54 = true then
        (
        letK ((decide ((i1 : Int) = i2)) : Bool) fun b57 =>
        if b57 = true then
          (
          some (.tup [(.int .i64 1), (.bool true)], h)
          )
        else
          (
          some (.tup [(.int .i64 0), (.bool true)], h)
          )
        )
      else
        (
        letK ((decide ((i10 : Int) = 8)) : Bool) fun b59 =>
        if b59 = true then
          (
          letK ((IntKind.wrap .i64 (i1 + i3)) : Int) fun i62 =>
          (C 25 [(.int .i64 i62)] h).bind fun r63 =>
          gI .i64 (some r63.1) true fun i63 =>
          some (.tup [(.int .i64 i63), (.bool true)], r63.2)
          )
        else
          (
          letK ((decide ((i10 : Int) = 9)) : Bool) fun b65 =>
          if b65 = true then
            (
            L39x60 mk0 C i1 i3 0 h (Q39x60 mk0 C)
            )
          else
            (
            letK ((decide ((i10 : Int) = 10)) : Bool) fun b76 =>
            if b76 = true then
              (
              L39x74 mk0 C i1 i3 0 h (Q39x74 mk0 C)
              )
            else
              (
              some (.tup [(.int .i64 i3), (.bool true)], h)
              )
            )
          )
        )
      )
    )
  ) := join_eqn (seqQ (evalE mk0 C k39x16) (seqQ (evalE mk0 C k39x13) (seqQ (evalE mk0 C k39x9) (seqQ (evalE mk0 C k39x5) (blockQ 0 (seqQ (evalE mk0 C k39x3) (seqQ (evalE mk0 C k39x1) (endQ [.tmp 8, .tmp 9])))))))) (.g [] true (.int .i64 i0) :: (.g [] true (.int .i64 i1) :: (.g [] true (.int .i64 i2) :: (.g [] true (.int .i64 i3) :: (rep 6 (.g [] true (.int .i64 i10) :: (rep 18 (.g [] true (.bool b29) :: (rep 58 []))))))))) h (J39x19xaux mk0 C i0 i1 i2 i3 i10 b29 h)
theorem L39x60xaux (i1 : Int) (i66 : Int) (i67 : Int) (h : Heap) (Q : Kont R) : (restrF 221360928884514619394 ⟨(.any :: (.g [] true (.int .i64 i1) :: (rep 64 (.g [] true (.int .i64 i66) :: (.g [] true (.int .i64 i67) :: (rep 20 [])))))), h⟩ fun σ => evalE M C k39x60 σ (roundQ M C k39x60 221360928884514619394 10 Q)) = (
  letK ((decide ((i67 : Int) < i66)) : Bool) fun b68 =>
  if b68 = true then
    (
    letK ((IntKind.wrap .i64 (i1 + i1)) : Int) fun i71 =>
    (C 25 [(.int .i64 i71)] h).bind fun r72 =>
    gI .i64 (some r72.1) true fun i72 =>
    letK ((IntKind.wrap .i64 (i67 + 1)) : Int) fun i73 =>
    L39x60 M C i72 i66 i73 r72.2 Q
    )
  else
    (
    Q (.exit 1) (S39xe1 i1 h)
    )
  ) := by kernel_rfl
theorem L39x60xeq (i1 : Int) (i66 : Int) (i67 : Int) (h : Heap) (Q : Kont R) : L39x60 mk0 C i1 i66 i67 h Q = (
  letK ((decide ((i67 : Int) < i66)) : Bool) fun b68 =>
  if b68 = true then
    (
    letK ((IntKind.wrap .i64 (i1 + i1)) : Int) fun i71 =>
    (C 25 [(.int .i64 i71)] h).bind fun r72 =>
    gI .i64 (some r72.1) true fun i72 =>
    letK ((IntKind.wrap .i64 (i67 + 1)) : Int) fun i73 =>
    L39x60 mk0 C i72 i66 i73 r72.2 Q
    )
  else
    (
    Q (.exit 1) (S39xe1 i1 h)
    )
  ) := loop_eqn C k39x60 221360928884514619394 10 (.any :: (.g [] true (.int .i64 i1) :: (rep 64 (.g [] true (.int .i64 i66) :: (.g [] true (.int .i64 i67) :: (rep 20 [])))))) h Q (by kernel_rfl) (L39x60xaux mk0 C i1 i66 i67 h Q)
theorem L39x74xaux (i1 : Int) (i77 : Int) (i78 : Int) (h : Heap) (Q : Kont R) : (restrF 453347182355485940514818 ⟨(.any :: (.g [] true (.int .i64 i1) :: (rep 75 (.g [] true (.int .i64 i77) :: (.g [] true (.int .i64 i78) :: (rep 9 [])))))), h⟩ fun σ => evalE M C k39x74 σ (roundQ M C k39x74 453347182355485940514818 10 Q)) = (
  letK ((decide ((i78 : Int) < i77)) : Bool) fun b79 =>
  if b79 = true then
    (
    (C 31 [(.int .i64 i1), (.int .i64 2)] h).bind fun r82 =>
    gI .i64 (some r82.1) true fun i82 =>
    letK ((IntKind.wrap .i64 (i1 - i82)) : Int) fun i83 =>
    letK ((IntKind.wrap .i64 (Int.tdiv i83 2)) : Int) fun i84 =>
    letK ((IntKind.wrap .i64 (i78 + 1)) : Int) fun i85 =>
    L39x74 M C i84 i77 i85 r82.2 Q
    )
  else
    (
    Q (.exit 3) (S39xe3 i1 h)
    )
  ) := by kernel_rfl
theorem L39x74xeq (i1 : Int) (i77 : Int) (i78 : Int) (h : Heap) (Q : Kont R) : L39x74 mk0 C i1 i77 i78 h Q = (
  letK ((decide ((i78 : Int) < i77)) : Bool) fun b79 =>
  if b79 = true then
    (
    (C 31 [(.int .i64 i1), (.int .i64 2)] h).bind fun r82 =>
    gI .i64 (some r82.1) true fun i82 =>
    letK ((IntKind.wrap .i64 (i1 - i82)) : Int) fun i83 =>
    letK ((IntKind.wrap .i64 (Int.tdiv i83 2)) : Int) fun i84 =>
    letK ((IntKind.wrap .i64 (i78 + 1)) : Int) fun i85 =>
    L39x74 mk0 C i84 i77 i85 r82.2 Q
    )
  else
    (
    Q (.exit 3) (S39xe3 i1 h)
    )
  ) := loop_eqn C k39x74 453347182355485940514818 10 (.any :: (.g [] true (.int .i64 i1) :: (rep 75 (.g [] true (.int .i64 i77) :: (.g [] true (.int .i64 i78) :: (rep 9 [])))))) h Q (by kernel_rfl) (L39x74xaux mk0 C i1 i77 i78 h Q)
theorem X39x60xe1 (M : Mk) (C : Cal) (i1 : Int) (h : Heap) : Q39x60 M C (.exit 1) (S39xe1 i1 h) = (
  some (.tup [(.int .i64 i1), (.bool true)], h)
  ) := by kernel_rfl
theorem X39x74xe3 (M : Mk) (C : Cal) (i1 : Int) (h : Heap) : Q39x74 M C (.exit 3) (S39xe3 i1 h) = (
  some (.tup [(.int .i64 i1), (.bool true)], h)
  ) := by kernel_rfl
def k52x2 : AC := .ret
def k52x1 : AC := .seq (.mask 64) k52x2
def k52x0 : AC := .seq (.ops true [
    ⟨(some 7), .move (.tmp 0), none, []⟩,
    ⟨(some 8), .move (.tmp 1), none, []⟩,
    ⟨(some 9), .bin .other .geq (.tmp 7) (.tmp 8), none, []⟩,
    ⟨(some 10), .move (.tmp 9), none, []⟩,
    ⟨(some 11), .move (.tmp 0), (some (10, true)), []⟩,
    ⟨(some 12), .move (.tmp 2), (some (10, true)), []⟩,
    ⟨(some 13), .bin .other .leq (.tmp 11) (.tmp 12), (some (10, true)), []⟩,
    ⟨(some 14), .pick (.tmp 10) (.tmp 13) (.c (.bool false)), none, []⟩,
    ⟨(some 6), .move (.tmp 14), none, []⟩]) k52x1
/-- provenance/provenanceref4.in -/
def c52 : AFn := ⟨15, [.tmp 6],
  .seq (.ops false [
    ⟨(some 6), .move (.c (.bool false)), none, []⟩]) k52x0⟩
theorem r52 (i0 : Int) (i1 : Int) (i2 : Int) (h : Heap) : runE M C c52 [(.int .i64 i0), (.int .i64 i1), (.int .i64 i2)] h = (
  letK ((decide ((i1 : Int) ≤ i0)) : Bool) fun b9 =>
  letK ((decide ((i0 : Int) ≤ i2)) : Bool) fun b13 =>
  letK ((if b9 = true then b13 else false) : Bool) fun b14 =>
  some ((.bool b14), h)
  ) := by kernel_rfl
theorem cf52 : cFn Try.prog 52 = some c52 := by kernel_rfl
theorem e52 (i0 : Int) (i1 : Int) (i2 : Int) (h : Heap) : E 52 [(.int .i64 i0), (.int .i64 i1), (.int .i64 i2)] h = (
  letK ((decide ((i1 : Int) ≤ i0)) : Bool) fun b9 =>
  letK ((decide ((i0 : Int) ≤ i2)) : Bool) fun b13 =>
  letK ((if b9 = true then b13 else false) : Bool) fun b14 =>
  some ((.bool b14), h)
  ) := (EV_eq (P := Try.prog) (T := T0) rfl cf52 [(.int .i64 i0), (.int .i64 i1), (.int .i64 i2)] h).trans (r52 mk0 E i0 i1 i2 h)
def k54x2 : AC := .ret
def k54x1 : AC := .seq (.mask 1) k54x2
def k54x0 : AC := .seq (.ops false [
    ⟨(some 1), .buildSl (List.replicate 25 (.str ⟨#[]⟩)) 1 [(0, (.c (.str ⟨#[]⟩))), (1, (.c (.str ⟨#[68, 65, 66]⟩))), (2, (.c (.str ⟨#[68, 65, 66]⟩))), (3, (.c (.str ⟨#[68, 65, 66]⟩))), (4, (.c (.str ⟨#[68, 65, 66]⟩))), (5, (.c (.str ⟨#[68, 65, 66]⟩))), (6, (.c (.str ⟨#[68, 65, 66]⟩))), (7, (.c (.str ⟨#[68, 65, 66]⟩))), (8, (.c (.str ⟨#[68, 65, 78]⟩))), (9, (.c (.str ⟨#[68, 65, 78]⟩))), (10, (.c (.str ⟨#[68, 65, 78]⟩))), (11, (.c (.str ⟨#[68, 78]⟩))), (12, (.c (.str ⟨#[68, 65, 78]⟩))), (13, (.c (.str ⟨#[65, 66, 78]⟩))), (14, (.c (.str ⟨#[68, 66, 78]⟩))), (15, (.c (.str ⟨#[68, 65, 66]⟩))), (16, (.c (.str ⟨#[65, 66, 78]⟩))), (17, (.c (.str ⟨#[65, 66, 78]⟩))), (18, (.c (.str ⟨#[65, 66, 78]⟩))), (19, (.c (.str ⟨#[78]⟩))), (20, (.c (.str ⟨#[78]⟩))), (21, (.c (.str ⟨#[65]⟩))), (22, (.c (.str ⟨#[]⟩))), (23, (.c (.str ⟨#[65]⟩))), (24, (.c (.str ⟨#[78]⟩)))], none, []⟩,
    ⟨(some 0), .move (.tmp 1), none, []⟩]) k54x1
/-- provenance/provenanceref4.members -/
def c54 : AFn := ⟨2, [.tmp 0],
  .seq (.ops false [
    ⟨(some 0), .move (.c (.sl .nil 0)), none, []⟩]) k54x0⟩
theorem r54 (h : Heap) : runE M C c54 [] h = (
  newK h (.cells [(.str ⟨#[]⟩), (.str ⟨#[68, 65, 66]⟩), (.str ⟨#[68, 65, 66]⟩), (.str ⟨#[68, 65, 66]⟩), (.str ⟨#[68, 65, 66]⟩), (.str ⟨#[68, 65, 66]⟩), (.str ⟨#[68, 65, 66]⟩), (.str ⟨#[68, 65, 66]⟩), (.str ⟨#[68, 65, 78]⟩), (.str ⟨#[68, 65, 78]⟩), (.str ⟨#[68, 65, 78]⟩), (.str ⟨#[68, 78]⟩), (.str ⟨#[68, 65, 78]⟩), (.str ⟨#[65, 66, 78]⟩), (.str ⟨#[68, 66, 78]⟩), (.str ⟨#[68, 65, 66]⟩), (.str ⟨#[65, 66, 78]⟩), (.str ⟨#[65, 66, 78]⟩), (.str ⟨#[65, 66, 78]⟩), (.str ⟨#[78]⟩), (.str ⟨#[78]⟩), (.str ⟨#[65]⟩), (.str ⟨#[]⟩), (.str ⟨#[65]⟩), (.str ⟨#[78]⟩)] (.grow 1) 0) fun h_2 =>
  some ((.sl (.pos ⟨List.length h, 0, 0⟩) 25), h_2)
  ) := by kernel_rfl
theorem cf54 : cFn Try.prog 54 = some c54 := by kernel_rfl
theorem e54 (h : Heap) : E 54 [] h = (
  newK h (.cells [(.str ⟨#[]⟩), (.str ⟨#[68, 65, 66]⟩), (.str ⟨#[68, 65, 66]⟩), (.str ⟨#[68, 65, 66]⟩), (.str ⟨#[68, 65, 66]⟩), (.str ⟨#[68, 65, 66]⟩), (.str ⟨#[68, 65, 66]⟩), (.str ⟨#[68, 65, 66]⟩), (.str ⟨#[68, 65, 78]⟩), (.str ⟨#[68, 65, 78]⟩), (.str ⟨#[68, 65, 78]⟩), (.str ⟨#[68, 78]⟩), (.str ⟨#[68, 65, 78]⟩), (.str ⟨#[65, 66, 78]⟩), (.str ⟨#[68, 66, 78]⟩), (.str ⟨#[68, 65, 66]⟩), (.str ⟨#[65, 66, 78]⟩), (.str ⟨#[65, 66, 78]⟩), (.str ⟨#[65, 66, 78]⟩), (.str ⟨#[78]⟩), (.str ⟨#[78]⟩), (.str ⟨#[65]⟩), (.str ⟨#[]⟩), (.str ⟨#[65]⟩), (.str ⟨#[78]⟩)] (.grow 1) 0) fun h_2 =>
  some ((.sl (.pos ⟨List.length h, 0, 0⟩) 25), h_2)
  ) := (EV_eq (P := Try.prog) (T := T0) rfl cf54 [] h).trans (r54 mk0 E h)
def k53x8 : AC := .exit 0
def k53x7 : AC := .mask 387
def k53x15 : AC := .ret
def k53x14 : AC := .seq (.mask 16) k53x15
def k53x13 : AC := .mask 387
def k53x12 : AC := .seq (.cond (.tmp 15)
   (.seq (.ops false [
      ⟨(some 4), .move (.c (.bool true)), none, []⟩]) k53x14)
   (.skip)) k53x13
def k53x11 : AC := .seq (.ops false [
    ⟨(some 11), .move (.tmp 0), none, []⟩,
    ⟨(some 12), .move (.tmp 5), none, []⟩,
    ⟨(some 13), .indexS (.tmp 11) (.tmp 12), none, []⟩,
    ⟨(some 14), .move (.tmp 1), none, []⟩,
    ⟨(some 15), .bin .other .eql (.tmp 13) (.tmp 14), none, []⟩]) k53x12
def k53x10 : AC := .mask 387
def k53x9 : AC := .ops false [
    ⟨(some 16), .bin .other .add (.tmp 8) (.c (.int .i64 1)), none, []⟩,
    ⟨(some 8), .move (.tmp 16), none, []⟩]
def k53x6 : AC := .seq (.seq (.block 1 (.seq (.ops false [
     ⟨(some 10), .move (.tmp 8), none, []⟩,
     ⟨(some 5), .move (.tmp 10), none, []⟩]) k53x11)) k53x10) k53x9
def k53x5 : AC := .seq (.seq (.cond (.tmp 9)
   (.skip)
   (.seq (.mask 0) k53x8)) k53x7) k53x6
def k53x4 : AC := .seq (.ops false [
    ⟨(some 9), .bin .other .lss (.tmp 8) (.tmp 7), none, []⟩]) k53x5
def k53x3 : AC := .mask 0
def k53x2 : AC := .seq (.block 0 (.loop 387 0 k53x4)) k53x3
def k53x17 : AC := .ret
def k53x16 : AC := .seq (.mask 16) k53x17
def k53x1 : AC := .seq (.ops false [
    ⟨(some 4), .move (.c (.bool false)), none, []⟩]) k53x16
def k53x0 : AC := .seq (.seq (.ops false [
    ⟨(some 6), .move (.tmp 0), none, []⟩,
    ⟨(some 7), .lenStr (.tmp 6), none, []⟩,
    ⟨(some 8), .move (.c (.int .i64 0)), none, []⟩]) k53x2) k53x1
/-- provenance/provenanceref4.has -/
def c53 : AFn := ⟨17, [.tmp 4],
  .seq (.ops false [
    ⟨(some 4), .move (.c (.bool false)), none, []⟩]) k53x0⟩
def S53xr (b4 : Bool) (h : Heap) : St := ⟨(rep 4 (.g [] true (.bool b4) :: (rep 12 []))), h⟩
def S53xe0 (h : Heap) : St := ⟨(rep 17 []), h⟩
noncomputable def Q53x4 (M : Mk) (C : Cal) : Kont (AV × Heap) := (blockQ 0 (seqQ (evalE M C k53x3) (seqQ (evalE M C k53x1) (endQ [.tmp 4]))))
noncomputable def L53x4 (t0 : ByteArray) (i1 : Int) (i7 : Int) (i8 : Int) (h : Heap) (Q : Kont R) : Option R := loopE (evalE M C k53x4) 387 0 ⟨(.g [] true (.str t0) :: (.g [] true (.int .u8 i1) :: (rep 5 (.g [] true (.int .i64 i7) :: (.g [] true (.int .i64 i8) :: (rep 8 [])))))), h⟩ Q
theorem r53 (t0 : ByteArray) (i1 : Int) (h : Heap) : runE M C c53 [(.str t0), (.int .u8 i1)] h = (
  L53x4 M C t0 i1 ((ByteArray.size t0 : Nat) : Int) 0 h (Q53x4 M C)
  ) := by kernel_rfl
theorem cf53 : cFn Try.prog 53 = some c53 := by kernel_rfl
theorem e53 (t0 : ByteArray) (i1 : Int) (h : Heap) : E 53 [(.str t0), (.int .u8 i1)] h = (
  L53x4 mk0 E t0 i1 ((ByteArray.size t0 : Nat) : Int) 0 h (Q53x4 mk0 E)
  ) := (EV_eq (P := Try.prog) (T := T0) rfl cf53 [(.str t0), (.int .u8 i1)] h).trans (r53 mk0 E t0 i1 h)
theorem L53x4xaux (t0 : ByteArray) (i1 : Int) (i7 : Int) (i8 : Int) (h : Heap) (Q : Kont R) : (restrF 387 ⟨(.g [] true (.str t0) :: (.g [] true (.int .u8 i1) :: (rep 5 (.g [] true (.int .i64 i7) :: (.g [] true (.int .i64 i8) :: (rep 8 [])))))), h⟩ fun σ => evalE M C k53x4 σ (roundQ M C k53x4 387 0 Q)) = (
  letK ((decide ((i8 : Int) < i7)) : Bool) fun b9 =>
  if b9 = true then
    (
    gb true (if (0 : Int) ≤ i8 then t0[Int.toNat i8]? else none) 0 fun y13 =>
    letK ((decide ((((y13.toNat : Nat) : Int) : Int) = i1)) : Bool) fun b15 =>
    if b15 = true then
      (
      Q .ret (S53xr true h)
      )
    else
      (
      letK ((IntKind.wrap .i64 (i8 + 1)) : Int) fun i16 =>
      L53x4 M C t0 i1 i7 i16 h Q
      )
    )
  else
    (
    Q (.exit 0) (S53xe0 h)
    )
  ) := by kernel_rfl
theorem L53x4xeq (t0 : ByteArray) (i1 : Int) (i7 : Int) (i8 : Int) (h : Heap) (Q : Kont R) : L53x4 mk0 C t0 i1 i7 i8 h Q = (
  letK ((decide ((i8 : Int) < i7)) : Bool) fun b9 =>
  if b9 = true then
    (
    gb true (if (0 : Int) ≤ i8 then t0[Int.toNat i8]? else none) 0 fun y13 =>
    letK ((decide ((((y13.toNat : Nat) : Int) : Int) = i1)) : Bool) fun b15 =>
    if b15 = true then
      (
      Q .ret (S53xr true h)
      )
    else
      (
      letK ((IntKind.wrap .i64 (i8 + 1)) : Int) fun i16 =>
      L53x4 mk0 C t0 i1 i7 i16 h Q
      )
    )
  else
    (
    Q (.exit 0) (S53xe0 h)
    )
  ) := loop_eqn C k53x4 387 0 (.g [] true (.str t0) :: (.g [] true (.int .u8 i1) :: (rep 5 (.g [] true (.int .i64 i7) :: (.g [] true (.int .i64 i8) :: (rep 8 [])))))) h Q (by kernel_rfl) (L53x4xaux mk0 C t0 i1 i7 i8 h Q)
theorem X53x4xr (M : Mk) (C : Cal) (b4 : Bool) (h : Heap) : Q53x4 M C .ret (S53xr b4 h) = (
  some ((.bool b4), h)
  ) := by kernel_rfl
theorem X53x4xe0 (M : Mk) (C : Cal) (h : Heap) : Q53x4 M C (.exit 0) (S53xe0 h) = (
  some ((.bool false), h)
  ) := by kernel_rfl
def k40x5 : AC := .ret
def k40x4 : AC := .seq (.mask 4) k40x5
def k40x3 : AC := .mask 2
def k40x2 : AC := .seq (.cond (.tmp 10)
   (.seq (.ops false [
      ⟨(some 2), .move (.c (.int .i64 15)), none, []⟩]) k40x4)
   (.skip)) k40x3
def k40x10 : AC := .ret
def k40x9 : AC := .seq (.mask 4) k40x10
def k40x8 : AC := .mask 2
def k40x7 : AC := .seq (.cond (.tmp 21)
   (.seq (.ops false [
      ⟨(some 22), .fieldAddr 1 (.tmp 1), none, []⟩,
      ⟨(some 23), .load (.cell (.int .i64)) (.tmp 22), none, []⟩,
      ⟨(some 2), .move (.tmp 23), none, []⟩]) k40x9)
   (.skip)) k40x8
def k40x15 : AC := .ret
def k40x14 : AC := .seq (.mask 4) k40x15
def k40x13 : AC := .mask 2
def k40x12 : AC := .seq (.cond (.tmp 26)
   (.seq (.ops false [
      ⟨(some 2), .move (.c (.int .i64 0)), none, []⟩]) k40x14)
   (.skip)) k40x13
def k40x17 : AC := .ret
def k40x16 : AC := .seq (.mask 4) k40x17
def k40x11 : AC := .seq (.ops false [
    ⟨(some 27), .fieldAddr 1 (.tmp 1), none, []⟩,
    ⟨(some 28), .load (.cell (.int .i64)) (.tmp 27), none, []⟩,
    ⟨(some 2), .move (.tmp 28), none, []⟩]) k40x16
def k40x6 : AC := .seq (.seq (.ops false [
    ⟨(some 24), .fieldAddr 0 (.tmp 1), none, []⟩,
    ⟨(some 25), .load (.cell (.int .i64)) (.tmp 24), none, []⟩,
    ⟨(some 26), .call 52 [(.tmp 25), (.c (.int .i64 0)), (.c (.int .i64 24))] [(.cell .bool)] (.bool false), none, []⟩]) k40x12) k40x11
def k40x1 : AC := .seq (.seq (.ops true [
    ⟨(some 11), .fieldAddr 0 (.tmp 1), none, []⟩,
    ⟨(some 12), .load (.cell (.int .i64)) (.tmp 11), none, []⟩,
    ⟨(some 13), .call 52 [(.tmp 12), (.c (.int .i64 0)), (.c (.int .i64 24))] [(.cell .bool)] (.bool false), none, []⟩,
    ⟨(some 14), .move (.tmp 13), none, []⟩,
    ⟨(some 16), .fieldAddr 0 (.tmp 1), (some (14, true)), []⟩,
    ⟨(some 17), .load (.cell (.int .i64)) (.tmp 16), (some (14, true)), []⟩,
    ⟨(some 15), .call 54 [] [(.cell .sl)] (.sl .nil 0), (some (14, true)), [.load 1 16 (some 17)]⟩,
    ⟨(some 18), .indexAddr 1 (.tmp 15) (.tmp 17), (some (14, true)), []⟩,
    ⟨(some 19), .load (.cell .str) (.tmp 18), (some (14, true)), []⟩,
    ⟨(some 20), .call 53 [(.tmp 19), (.c (.int .u8 68))] [(.cell .bool)] (.bool false), (some (14, true)), []⟩,
    ⟨(some 21), .pick (.tmp 14) (.tmp 20) (.c (.bool false)), none, []⟩]) k40x7) k40x6
def k40x0 : AC := .seq (.seq (.ops true [
    ⟨(some 3), .fieldAddr 0 (.tmp 1), none, []⟩,
    ⟨(some 4), .load (.cell (.int .i64)) (.tmp 3), none, []⟩,
    ⟨(some 5), .bin .other .eql (.tmp 4) (.c (.int .i64 20)), none, []⟩,
    ⟨(some 6), .move (.tmp 5), none, []⟩,
    ⟨(some 7), .fieldAddr 0 (.tmp 1), (some (6, false)), []⟩,
    ⟨(some 8), .load (.cell (.int .i64)) (.tmp 7), (some (6, false)), []⟩,
    ⟨(some 9), .bin .other .eql (.tmp 8) (.c (.int .i64 21)), (some (6, false)), []⟩,
    ⟨(some 10), .pick (.tmp 6) (.c (.bool true)) (.tmp 9), none, []⟩]) k40x2) k40x1
/-- provenance/provenanceref4.OpWrites -/
def c40 : AFn := ⟨29, [.tmp 2],
  .seq (.ops false [
    ⟨(some 1), .boxL (.tmp 0), none, []⟩,
    ⟨(some 2), .move (.c (.int .i64 0)), none, []⟩]) k40x0⟩
theorem r40 (i0x0 : Int) (i0x1 : Int) (i0x2 : Int) (i0x3 : Int) (i0x4 : Int) (h : Heap) : runE M C c40 [(.agg [(.int .i64 i0x0), (.int .i64 i0x1), (.int .i64 i0x2), (.int .i64 i0x3), (.int .i64 i0x4)])] h = (
  letK ((decide ((i0x0 : Int) = 20)) : Bool) fun b5 =>
  gI .i64 (some (.int .i64 i0x0)) (!b5) fun i8 =>
  letK ((decide ((i8 : Int) = 21)) : Bool) fun b9 =>
  letK ((if b5 = true then true else b9) : Bool) fun b10 =>
  if b10 = true then
    (
    some ((.int .i64 15), h)
    )
  else
    (
    (C 52 [(.int .i64 i0x0), (.int .i64 0), (.int .i64 24)] h).bind fun r13 =>
    gB (some r13.1) true fun b13 =>
    gI .i64 (some (.int .i64 i0x0)) b13 fun i17 =>
    (callO b13 (C 54 [] r13.2) (.sl .nil 0) r13.2).bind fun r15 =>
    gL (some r15.1) b13 fun s15 n15 =>
    chk (b13 = true → (0 : Int) ≤ i17 ∧ (i17 : Int) < ((n15 : Nat) : Int)) <|
    atP (adP s15) b13 fun a18 =>
    atP (some (Ad.add a18 (Int.toNat i17 * 1))) b13 fun a19 =>
    gS (ld1 r15.2 a19) b13 fun t19 =>
    (callO b13 (C 53 [(.str t19), (.int .u8 68)] r15.2) (.bool false) r15.2).bind fun r20 =>
    gB (some r20.1) b13 fun b20 =>
    letK ((if b13 = true then b20 else false) : Bool) fun b21 =>
    if b21 = true then
      (
      some ((.int .i64 i0x1), r20.2)
      )
    else
      (
      (C 52 [(.int .i64 i0x0), (.int .i64 0), (.int .i64 24)] r20.2).bind fun r26 =>
      gB (some r26.1) true fun b26 =>
      if b26 = true then
        (
        some ((.int .i64 0), r26.2)
        )
      else
        (
        some ((.int .i64 i0x1), r26.2)
        )
      )
    )
  ) := by kernel_rfl
theorem cf40 : cFn Try.prog 40 = some c40 := by kernel_rfl
theorem e40 (i0x0 : Int) (i0x1 : Int) (i0x2 : Int) (i0x3 : Int) (i0x4 : Int) (h : Heap) : E 40 [(.agg [(.int .i64 i0x0), (.int .i64 i0x1), (.int .i64 i0x2), (.int .i64 i0x3), (.int .i64 i0x4)])] h = (
  letK ((decide ((i0x0 : Int) = 20)) : Bool) fun b5 =>
  gI .i64 (some (.int .i64 i0x0)) (!b5) fun i8 =>
  letK ((decide ((i8 : Int) = 21)) : Bool) fun b9 =>
  letK ((if b5 = true then true else b9) : Bool) fun b10 =>
  if b10 = true then
    (
    some ((.int .i64 15), h)
    )
  else
    (
    (E 52 [(.int .i64 i0x0), (.int .i64 0), (.int .i64 24)] h).bind fun r13 =>
    gB (some r13.1) true fun b13 =>
    gI .i64 (some (.int .i64 i0x0)) b13 fun i17 =>
    (callO b13 (E 54 [] r13.2) (.sl .nil 0) r13.2).bind fun r15 =>
    gL (some r15.1) b13 fun s15 n15 =>
    chk (b13 = true → (0 : Int) ≤ i17 ∧ (i17 : Int) < ((n15 : Nat) : Int)) <|
    atP (adP s15) b13 fun a18 =>
    atP (some (Ad.add a18 (Int.toNat i17 * 1))) b13 fun a19 =>
    gS (ld1 r15.2 a19) b13 fun t19 =>
    (callO b13 (E 53 [(.str t19), (.int .u8 68)] r15.2) (.bool false) r15.2).bind fun r20 =>
    gB (some r20.1) b13 fun b20 =>
    letK ((if b13 = true then b20 else false) : Bool) fun b21 =>
    if b21 = true then
      (
      some ((.int .i64 i0x1), r20.2)
      )
    else
      (
      (E 52 [(.int .i64 i0x0), (.int .i64 0), (.int .i64 24)] r20.2).bind fun r26 =>
      gB (some r26.1) true fun b26 =>
      if b26 = true then
        (
        some ((.int .i64 0), r26.2)
        )
      else
        (
        some ((.int .i64 i0x1), r26.2)
        )
      )
    )
  ) := (EV_eq (P := Try.prog) (T := T0) rfl cf40 [(.agg [(.int .i64 i0x0), (.int .i64 i0x1), (.int .i64 i0x2), (.int .i64 i0x3), (.int .i64 i0x4)])] h).trans (r40 mk0 E i0x0 i0x1 i0x2 i0x3 i0x4 h)
def k26x8 : AC := .exit 0
def k26x7 : AC := .mask 458964
def k26x25 : AC := .join 484564
def k26x24 : AC := .seq (.cond (.tmp 71)
   (.ops false [
      ⟨(some 72), .move (.tmp 7), none, []⟩,
      ⟨(some 73), .move (.tmp 11), none, []⟩,
      ⟨(some 74), .bin .other .sub (.tmp 73) (.c (.int .i64 1)), none, []⟩,
      ⟨(some 75), .bin .other .quo (.tmp 74) (.c (.int .i64 2)), none, []⟩,
      ⟨(some 76), .buildSl [(.int .i64 0)] 1 [(0, (.tmp 75))], none, []⟩,
      ⟨(some 77), .append [(.int .i64 0)] 1 8 (.tmp 72) (.tmp 76), none, []⟩,
      ⟨(some 7), .move (.tmp 77), none, []⟩])
   (.skip)) k26x25
def k26x23 : AC := .seq (.ops false [
    ⟨(some 71), .move (.tmp 14), none, []⟩]) k26x24
def k26x31 : AC := .ret
def k26x30 : AC := .seq (.mask 448) k26x31
def k26x29 : AC := .mask 484564
def k26x28 : AC := .seq (.cond (.tmp 43)
   (.seq (.ops false [
      ⟨(some 44), .load (.raw 16) (.tmp 4), none, []⟩,
      ⟨(some 45), .move (.tmp 7), none, []⟩,
      ⟨none, .store 16 (.tmp 6) (.tmp 44), none, []⟩,
      ⟨(some 7), .move (.tmp 45), none, []⟩,
      ⟨(some 8), .move (.c (.int .i64 1)), none, []⟩]) k26x30)
   (.skip)) k26x29
def k26x27 : AC := .seq (.ops false [
    ⟨(some 42), .move (.tmp 14), none, []⟩,
    ⟨(some 43), .un .not (.tmp 42), none, []⟩]) k26x28
def k26x22 : AC := .join 484564
def k26x21 : AC := .seq (.cond (.tmp 66)
   (.seq (.ops false [
      ⟨(some 68), .move (.tmp 11), none, []⟩,
      ⟨(some 69), .call 31 [(.tmp 68), (.c (.int .i64 2))] [(.cell (.int .i64))] (.int .i64 0), none, []⟩,
      ⟨(some 70), .bin .other .eql (.tmp 69) (.c (.int .i64 1)), none, []⟩,
      ⟨(some 14), .move (.tmp 70), none, []⟩]) k26x23)
   (.seq (.ops false [
      ⟨(some 33), .fieldAddr 0 (.tmp 10), none, []⟩,
      ⟨(some 34), .load (.cell (.int .i64)) (.tmp 33), none, []⟩,
      ⟨(some 35), .move (.tmp 11), none, []⟩,
      ⟨(some 36), .move (.tmp 12), none, []⟩,
      ⟨(some 37), .fieldAddr 4 (.tmp 10), none, []⟩,
      ⟨(some 38), .load (.cell (.int .i64)) (.tmp 37), none, []⟩,
      ⟨(some 39), .call 39 [(.tmp 34), (.tmp 35), (.tmp 36), (.tmp 38)] [(.cell (.int .i64)), (.cell .bool)] .opq, none, []⟩,
      ⟨(some 32), .move (.tmp 39), none, []⟩,
      ⟨(some 40), .extract (.tmp 32) 0, none, []⟩,
      ⟨(some 41), .extract (.tmp 32) 1, none, []⟩,
      ⟨(some 13), .move (.tmp 40), none, []⟩,
      ⟨(some 14), .move (.tmp 41), none, []⟩]) k26x27)) k26x22
def k26x20 : AC := .join 484564
def k26x19 : AC := .seq (.cond (.tmp 57)
   (.ops false [
      ⟨(some 59), .move (.tmp 2), none, []⟩,
      ⟨(some 60), .move (.tmp 11), none, []⟩,
      ⟨(some 61), .fieldAddr 4 (.tmp 10), none, []⟩,
      ⟨(some 62), .load (.cell (.int .i64)) (.tmp 61), none, []⟩,
      ⟨(some 63), .bin .other .add (.tmp 60) (.tmp 62), none, []⟩,
      ⟨(some 64), .move (.tmp 12), none, []⟩,
      ⟨(some 65), .call 38 [(.tmp 59), (.tmp 63), (.tmp 64)] [(.cell .bool)] (.bool false), none, []⟩,
      ⟨(some 14), .move (.tmp 65), none, []⟩])
   (.seq (.ops false [
      ⟨(some 67), .bin .other .eql (.tmp 31) (.c (.int .i64 23)), none, []⟩,
      ⟨(some 66), .move (.tmp 67), none, []⟩]) k26x21)) k26x20
def k26x18 : AC := .join 484564
def k26x17 : AC := .seq (.cond (.tmp 46)
   (.ops false [
      ⟨(some 49), .move (.tmp 2), none, []⟩,
      ⟨(some 50), .move (.tmp 11), none, []⟩,
      ⟨(some 51), .fieldAddr 4 (.tmp 10), none, []⟩,
      ⟨(some 52), .load (.cell (.int .i64)) (.tmp 51), none, []⟩,
      ⟨(some 53), .bin .other .add (.tmp 50) (.tmp 52), none, []⟩,
      ⟨(some 54), .call 37 [(.tmp 49), (.tmp 53)] [(.cell (.int .i64)), (.cell .bool)] .opq, none, []⟩,
      ⟨(some 48), .move (.tmp 54), none, []⟩,
      ⟨(some 55), .extract (.tmp 48) 0, none, []⟩,
      ⟨(some 56), .extract (.tmp 48) 1, none, []⟩,
      ⟨(some 13), .move (.tmp 55), none, []⟩,
      ⟨(some 14), .move (.tmp 56), none, []⟩])
   (.seq (.ops false [
      ⟨(some 58), .bin .other .eql (.tmp 31) (.c (.int .i64 13)), none, []⟩,
      ⟨(some 57), .move (.tmp 58), none, []⟩]) k26x19)) k26x18
def k26x16 : AC := .mask 484564
def k26x15 : AC := .seq (.block 2 (.seq (.ops false [
     ⟨(some 47), .bin .other .eql (.tmp 31) (.c (.int .i64 12)), none, []⟩,
     ⟨(some 46), .move (.tmp 47), none, []⟩]) k26x17)) k26x16
def k26x39 : AC := .ret
def k26x38 : AC := .seq (.mask 448) k26x39
def k26x37 : AC := .mask 468180
def k26x36 : AC := .seq (.cond (.tmp 79)
   (.seq (.ops false [
      ⟨(some 80), .load (.raw 16) (.tmp 4), none, []⟩,
      ⟨(some 81), .move (.tmp 7), none, []⟩,
      ⟨none, .store 16 (.tmp 6) (.tmp 80), none, []⟩,
      ⟨(some 7), .move (.tmp 81), none, []⟩,
      ⟨(some 8), .move (.c (.int .i64 5)), none, []⟩]) k26x38)
   (.skip)) k26x37
def k26x42 : AC := .join 458964
def k26x41 : AC := .seq (.cond (.tmp 85)
   (.ops false [
      ⟨(some 86), .move (.tmp 15), none, []⟩,
      ⟨(some 87), .move (.tmp 13), none, []⟩,
      ⟨(some 88), .indexArr 16 1 (.tmp 4) (.tmp 86), none, []⟩,
      ⟨none, .store 1 (.tmp 88) (.tmp 87), none, []⟩])
   (.skip)) k26x42
def k26x40 : AC := .seq (.ops false [
    ⟨(some 84), .move (.tmp 15), none, []⟩,
    ⟨(some 85), .bin .other .neq (.tmp 84) (.c (.int .i64 0)), none, []⟩]) k26x41
def k26x35 : AC := .seq (.ops false [
    ⟨(some 82), .load (.agg [(.int .i64), (.int .i64), (.int .i64), (.int .i64), (.int .i64)]) (.tmp 10), none, []⟩,
    ⟨(some 83), .call 40 [(.tmp 82)] [(.cell (.int .i64))] (.int .i64 0), none, []⟩,
    ⟨(some 15), .move (.tmp 83), none, []⟩]) k26x40
def k26x14 : AC := .seq (.seq (.ops false [
    ⟨(some 78), .move (.tmp 14), none, []⟩,
    ⟨(some 79), .un .not (.tmp 78), none, []⟩]) k26x36) k26x35
def k26x13 : AC := .seq (.seq (.ops false [
    ⟨(some 30), .fieldAddr 0 (.tmp 10), none, []⟩,
    ⟨(some 31), .load (.cell (.int .i64)) (.tmp 30), none, []⟩]) k26x15) k26x14
def k26x12 : AC := .seq (.ops false [
    ⟨(some 13), .move (.c (.int .i64 0)), none, []⟩,
    ⟨(some 14), .move (.c (.bool true)), none, []⟩]) k26x13
def k26x11 : AC := .seq (.ops false [
    ⟨(some 22), .fieldAddr 2 (.tmp 10), none, []⟩,
    ⟨(some 23), .load (.cell (.int .i64)) (.tmp 22), none, []⟩,
    ⟨(some 24), .indexArr 16 1 (.tmp 4) (.tmp 23), none, []⟩,
    ⟨(some 25), .load (.cell (.int .i64)) (.tmp 24), none, []⟩,
    ⟨(some 26), .fieldAddr 3 (.tmp 10), none, []⟩,
    ⟨(some 27), .load (.cell (.int .i64)) (.tmp 26), none, []⟩,
    ⟨(some 28), .indexArr 16 1 (.tmp 4) (.tmp 27), none, []⟩,
    ⟨(some 29), .load (.cell (.int .i64)) (.tmp 28), none, []⟩,
    ⟨(some 11), .move (.tmp 25), none, []⟩,
    ⟨(some 12), .move (.tmp 29), none, []⟩]) k26x12
def k26x10 : AC := .mask 458964
def k26x9 : AC := .ops false [
    ⟨(some 89), .bin .other .add (.tmp 18) (.c (.int .i64 1)), none, []⟩,
    ⟨(some 18), .move (.tmp 89), none, []⟩]
def k26x6 : AC := .seq (.seq (.block 1 (.seq (.ops false [
     ⟨(some 20), .indexAddr 5 (.tmp 16) (.tmp 18), none, []⟩,
     ⟨(some 21), .load (.agg [(.int .i64), (.int .i64), (.int .i64), (.int .i64), (.int .i64)]) (.tmp 20), none, []⟩,
     ⟨(some 10), .allocL [(.int .i64 0), (.int .i64 0), (.int .i64 0), (.int .i64 0), (.int .i64 0)], none, []⟩,
     ⟨none, .store 5 (.tmp 10) (.tmp 21), none, []⟩]) k26x11)) k26x10) k26x9
def k26x5 : AC := .seq (.seq (.cond (.tmp 19)
   (.skip)
   (.seq (.mask 208) k26x8)) k26x7) k26x6
def k26x4 : AC := .seq (.ops false [
    ⟨(some 19), .bin .other .lss (.tmp 18) (.tmp 17), none, []⟩]) k26x5
def k26x3 : AC := .mask 208
def k26x2 : AC := .seq (.block 0 (.loop 458964 208 k26x4)) k26x3
def k26x45 : AC := .ret
def k26x44 : AC := .seq (.mask 448) k26x45
def k26x1 : AC := .seq (.ops false [
    ⟨(some 90), .load (.raw 16) (.tmp 4), none, []⟩,
    ⟨(some 91), .move (.tmp 7), none, []⟩,
    ⟨none, .store 16 (.tmp 6) (.tmp 90), none, []⟩,
    ⟨(some 7), .move (.tmp 91), none, []⟩,
    ⟨(some 8), .move (.c (.int .i64 0)), none, []⟩]) k26x44
def k26x0 : AC := .seq (.seq (.ops false [
    ⟨(some 16), .move (.tmp 0), none, []⟩,
    ⟨(some 17), .lenSl (.tmp 16), none, []⟩,
    ⟨(some 18), .move (.c (.int .i64 0)), none, []⟩]) k26x2) k26x1
/-- provenance/provenanceref4.Plain -/
def c26 : AFn := ⟨92, [.cell 6 (.raw 16), .tmp 7, .tmp 8],
  .seq (.ops false [
    ⟨(some 4), .boxL (.tmp 1), none, []⟩,
    ⟨(some 6), .allocL (List.replicate 16 (.int .i64 0)), none, []⟩,
    ⟨(some 7), .move (.c (.sl .nil 0)), none, []⟩,
    ⟨(some 8), .move (.c (.int .i64 0)), none, []⟩]) k26x0⟩
def S26xr (l6 : List AV) (s7 : SA) (n7 : Nat) (i8 : Int) (h : Heap) : St := ⟨(rep 6 (.box l6 :: (.g [] true (.sl s7 n7) :: (.g [] true (.int .i64 i8) :: (rep 83 []))))), h⟩
def S26xe0 (l4 : List AV) (i6x0 : Int) (i6x1 : Int) (i6x2 : Int) (i6x3 : Int) (i6x4 : Int) (i6x5 : Int) (i6x6 : Int) (i6x7 : Int) (i6x8 : Int) (i6x9 : Int) (i6x10 : Int) (i6x11 : Int) (i6x12 : Int) (i6x13 : Int) (i6x14 : Int) (i6x15 : Int) (s7 : SA) (n7 : Nat) (h : Heap) : St := ⟨(rep 4 (.box l4 :: (.any :: (.box [(.int .i64 i6x0), (.int .i64 i6x1), (.int .i64 i6x2), (.int .i64 i6x3), (.int .i64 i6x4), (.int .i64 i6x5), (.int .i64 i6x6), (.int .i64 i6x7), (.int .i64 i6x8), (.int .i64 i6x9), (.int .i64 i6x10), (.int .i64 i6x11), (.int .i64 i6x12), (.int .i64 i6x13), (.int .i64 i6x14), (.int .i64 i6x15)] :: (.g [] true (.sl s7 n7) :: (rep 84 [])))))), h⟩
noncomputable def Q26x4 (M : Mk) (C : Cal) : Kont (AV × Heap) := (blockQ 0 (seqQ (evalE M C k26x3) (seqQ (evalE M C k26x1) (endQ [.cell 6 (.raw 16), .tmp 7, .tmp 8]))))
noncomputable def L26x4 (p2 : Option Ad) (l4 : List AV) (i6x0 : Int) (i6x1 : Int) (i6x2 : Int) (i6x3 : Int) (i6x4 : Int) (i6x5 : Int) (i6x6 : Int) (i6x7 : Int) (i6x8 : Int) (i6x9 : Int) (i6x10 : Int) (i6x11 : Int) (i6x12 : Int) (i6x13 : Int) (i6x14 : Int) (i6x15 : Int) (s7 : SA) (n7 : Nat) (s16 : SA) (n16 : Nat) (i17 : Int) (i18 : Int) (h : Heap) (Q : Kont R) : Option R := loopE (evalE M C k26x4) 458964 208 ⟨(.any :: .any :: (.g [] true (.ptr p2) :: (.any :: (.box l4 :: (.any :: (.box [(.int .i64 i6x0), (.int .i64 i6x1), (.int .i64 i6x2), (.int .i64 i6x3), (.int .i64 i6x4), (.int .i64 i6x5), (.int .i64 i6x6), (.int .i64 i6x7), (.int .i64 i6x8), (.int .i64 i6x9), (.int .i64 i6x10), (.int .i64 i6x11), (.int .i64 i6x12), (.int .i64 i6x13), (.int .i64 i6x14), (.int .i64 i6x15)] :: (.g [] true (.sl s7 n7) :: (rep 8 (.g [] true (.sl s16 n16) :: (.g [] true (.int .i64 i17) :: (.g [] true (.int .i64 i18) :: (rep 73 [])))))))))))), h⟩ Q
noncomputable def J26x34 (M : Mk) (C : Cal) (p2 : Option Ad) (l4 : List AV) (i6x0 : Int) (i6x1 : Int) (i6x2 : Int) (i6x3 : Int) (i6x4 : Int) (i6x5 : Int) (i6x6 : Int) (i6x7 : Int) (i6x8 : Int) (i6x9 : Int) (i6x10 : Int) (i6x11 : Int) (i6x12 : Int) (i6x13 : Int) (i6x14 : Int) (i6x15 : Int) (s7 : SA) (n7 : Nat) (i10x0 : Int) (i10x1 : Int) (i10x2 : Int) (i10x3 : Int) (i10x4 : Int) (i13 : Int) (b14 : Bool) (s16 : SA) (n16 : Nat) (i17 : Int) (i18 : Int) (h : Heap) (Q : Kont R) : Option R := M R (blockQ 2 (seqQ (evalE M C k26x16) (seqQ (evalE M C k26x14) (blockQ 1 (seqQ (evalE M C k26x10) (seqQ (evalE M C k26x9) (roundQ M C k26x4 458964 208 Q))))))) (.any :: .any :: (.g [] true (.ptr p2) :: (.any :: (.box l4 :: (.any :: (.box [(.int .i64 i6x0), (.int .i64 i6x1), (.int .i64 i6x2), (.int .i64 i6x3), (.int .i64 i6x4), (.int .i64 i6x5), (.int .i64 i6x6), (.int .i64 i6x7), (.int .i64 i6x8), (.int .i64 i6x9), (.int .i64 i6x10), (.int .i64 i6x11), (.int .i64 i6x12), (.int .i64 i6x13), (.int .i64 i6x14), (.int .i64 i6x15)] :: (.g [] true (.sl s7 n7) :: (.any :: .any :: (.box [(.int .i64 i10x0), (.int .i64 i10x1), (.int .i64 i10x2), (.int .i64 i10x3), (.int .i64 i10x4)] :: (.any :: .any :: (.g [] true (.int .i64 i13) :: (.g [] true (.bool b14) :: (.any :: (.g [] true (.sl s16 n16) :: (.g [] true (.int .i64 i17) :: (.g [] true (.int .i64 i18) :: (rep 73 []))))))))))))))))) h
noncomputable def J26x33 (M : Mk) (C : Cal) (p2 : Option Ad) (l4 : List AV) (i6x0 : Int) (i6x1 : Int) (i6x2 : Int) (i6x3 : Int) (i6x4 : Int) (i6x5 : Int) (i6x6 : Int) (i6x7 : Int) (i6x8 : Int) (i6x9 : Int) (i6x10 : Int) (i6x11 : Int) (i6x12 : Int) (i6x13 : Int) (i6x14 : Int) (i6x15 : Int) (s7 : SA) (n7 : Nat) (i10x0 : Int) (i10x1 : Int) (i10x2 : Int) (i10x3 : Int) (i10x4 : Int) (i13 : Int) (b14 : Bool) (s16 : SA) (n16 : Nat) (i17 : Int) (i18 : Int) (h : Heap) (Q : Kont R) : Option R := M R (seqQ (evalE M C k26x18) (blockQ 2 (seqQ (evalE M C k26x16) (seqQ (evalE M C k26x14) (blockQ 1 (seqQ (evalE M C k26x10) (seqQ (evalE M C k26x9) (roundQ M C k26x4 458964 208 Q)))))))) (.any :: .any :: (.g [] true (.ptr p2) :: (.any :: (.box l4 :: (.any :: (.box [(.int .i64 i6x0), (.int .i64 i6x1), (.int .i64 i6x2), (.int .i64 i6x3), (.int .i64 i6x4), (.int .i64 i6x5), (.int .i64 i6x6), (.int .i64 i6x7), (.int .i64 i6x8), (.int .i64 i6x9), (.int .i64 i6x10), (.int .i64 i6x11), (.int .i64 i6x12), (.int .i64 i6x13), (.int .i64 i6x14), (.int .i64 i6x15)] :: (.g [] true (.sl s7 n7) :: (.any :: .any :: (.box [(.int .i64 i10x0), (.int .i64 i10x1), (.int .i64 i10x2), (.int .i64 i10x3), (.int .i64 i10x4)] :: (.any :: .any :: (.g [] true (.int .i64 i13) :: (.g [] true (.bool b14) :: (.any :: (.g [] true (.sl s16 n16) :: (.g [] true (.int .i64 i17) :: (.g [] true (.int .i64 i18) :: (rep 73 []))))))))))))))))) h
noncomputable def J26x26 (M : Mk) (C : Cal) (p2 : Option Ad) (l4 : List AV) (i6x0 : Int) (i6x1 : Int) (i6x2 : Int) (i6x3 : Int) (i6x4 : Int) (i6x5 : Int) (i6x6 : Int) (i6x7 : Int) (i6x8 : Int) (i6x9 : Int) (i6x10 : Int) (i6x11 : Int) (i6x12 : Int) (i6x13 : Int) (i6x14 : Int) (i6x15 : Int) (s7 : SA) (n7 : Nat) (i10x0 : Int) (i10x1 : Int) (i10x2 : Int) (i10x3 : Int) (i10x4 : Int) (i13 : Int) (b14 : Bool) (s16 : SA) (n16 : Nat) (i17 : Int) (i18 : Int) (h : Heap) (Q : Kont R) : Option R := M R (seqQ (evalE M C k26x22) (seqQ (evalE M C k26x20) (seqQ (evalE M C k26x18) (blockQ 2 (seqQ (evalE M C k26x16) (seqQ (evalE M C k26x14) (blockQ 1 (seqQ (evalE M C k26x10) (seqQ (evalE M C k26x9) (roundQ M C k26x4 458964 208 Q)))))))))) (.any :: .any :: (.g [] true (.ptr p2) :: (.any :: (.box l4 :: (.any :: (.box [(.int .i64 i6x0), (.int .i64 i6x1), (.int .i64 i6x2), (.int .i64 i6x3), (.int .i64 i6x4), (.int .i64 i6x5), (.int .i64 i6x6), (.int .i64 i6x7), (.int .i64 i6x8), (.int .i64 i6x9), (.int .i64 i6x10), (.int .i64 i6x11), (.int .i64 i6x12), (.int .i64 i6x13), (.int .i64 i6x14), (.int .i64 i6x15)] :: (.g [] true (.sl s7 n7) :: (.any :: .any :: (.box [(.int .i64 i10x0), (.int .i64 i10x1), (.int .i64 i10x2), (.int .i64 i10x3), (.int .i64 i10x4)] :: (.any :: .any :: (.g [] true (.int .i64 i13) :: (.g [] true (.bool b14) :: (.any :: (.g [] true (.sl s16 n16) :: (.g [] true (.int .i64 i17) :: (.g [] true (.int .i64 i18) :: (rep 73 []))))))))))))))))) h
noncomputable def J26x32 (M : Mk) (C : Cal) (p2 : Option Ad) (l4 : List AV) (i6x0 : Int) (i6x1 : Int) (i6x2 : Int) (i6x3 : Int) (i6x4 : Int) (i6x5 : Int) (i6x6 : Int) (i6x7 : Int) (i6x8 : Int) (i6x9 : Int) (i6x10 : Int) (i6x11 : Int) (i6x12 : Int) (i6x13 : Int) (i6x14 : Int) (i6x15 : Int) (s7 : SA) (n7 : Nat) (i10x0 : Int) (i10x1 : Int) (i10x2 : Int) (i10x3 : Int) (i10x4 : Int) (i13 : Int) (b14 : Bool) (s16 : SA) (n16 : Nat) (i17 : Int) (i18 : Int) (h : Heap) (Q : Kont R) : Option R := M R (seqQ (evalE M C k26x20) (seqQ (evalE M C k26x18) (blockQ 2 (seqQ (evalE M C k26x16) (seqQ (evalE M C k26x14) (blockQ 1 (seqQ (evalE M C k26x10) (seqQ (evalE M C k26x9) (roundQ M C k26x4 458964 208 Q))))))))) (.any :: .any :: (.g [] true (.ptr p2) :: (.any :: (.box l4 :: (.any :: (.box [(.int .i64 i6x0), (.int .i64 i6x1), (.int .i64 i6x2), (.int .i64 i6x3), (.int .i64 i6x4), (.int .i64 i6x5), (.int .i64 i6x6), (.int .i64 i6x7), (.int .i64 i6x8), (.int .i64 i6x9), (.int .i64 i6x10), (.int .i64 i6x11), (.int .i64 i6x12), (.int .i64 i6x13), (.int .i64 i6x14), (.int .i64 i6x15)] :: (.g [] true (.sl s7 n7) :: (.any :: .any :: (.box [(.int .i64 i10x0), (.int .i64 i10x1), (.int .i64 i10x2), (.int .i64 i10x3), (.int .i64 i10x4)] :: (.any :: .any :: (.g [] true (.int .i64 i13) :: (.g [] true (.bool b14) :: (.any :: (.g [] true (.sl s16 n16) :: (.g [] true (.int .i64 i17) :: (.g [] true (.int .i64 i18) :: (rep 73 []))))))))))))))))) h
noncomputable def J26x43 (M : Mk) (C : Cal) (p2 : Option Ad) (l4 : List AV) (i6x0 : Int) (i6x1 : Int) (i6x2 : Int) (i6x3 : Int) (i6x4 : Int) (i6x5 : Int) (i6x6 : Int) (i6x7 : Int) (i6x8 : Int) (i6x9 : Int) (i6x10 : Int) (i6x11 : Int) (i6x12 : Int) (i6x13 : Int) (i6x14 : Int) (i6x15 : Int) (s7 : SA) (n7 : Nat) (s16 : SA) (n16 : Nat) (i17 : Int) (i18 : Int) (h : Heap) (Q : Kont R) : Option R := M R (blockQ 1 (seqQ (evalE M C k26x10) (seqQ (evalE M C k26x9) (roundQ M C k26x4 458964 208 Q)))) (.any :: .any :: (.g [] true (.ptr p2) :: (.any :: (.box l4 :: (.any :: (.box [(.int .i64 i6x0), (.int .i64 i6x1), (.int .i64 i6x2), (.int .i64 i6x3), (.int .i64 i6x4), (.int .i64 i6x5), (.int .i64 i6x6), (.int .i64 i6x7), (.int .i64 i6x8), (.int .i64 i6x9), (.int .i64 i6x10), (.int .i64 i6x11), (.int .i64 i6x12), (.int .i64 i6x13), (.int .i64 i6x14), (.int .i64 i6x15)] :: (.g [] true (.sl s7 n7) :: (rep 8 (.g [] true (.sl s16 n16) :: (.g [] true (.int .i64 i17) :: (.g [] true (.int .i64 i18) :: (rep 73 [])))))))))))) h
theorem r26 (s0 : SA) (n0 : Nat) (l1 : List AV) (p2 : Option Ad) (h : Heap) : runE M C c26 [(.sl s0 n0), (.agg l1), (.ptr p2)] h = (
  L26x4 M C p2 l1 0 0 0 0 0 0 0 0 0 0 0 0 0 0 0 0 .nil 0 s0 n0 ((n0 : Nat) : Int) 0 h (Q26x4 M C)
  ) := by kernel_rfl
theorem cf26 : cFn Try.prog 26 = some c26 := by kernel_rfl
theorem e26 (s0 : SA) (n0 : Nat) (l1 : List AV) (p2 : Option Ad) (h : Heap) : E 26 [(.sl s0 n0), (.agg l1), (.ptr p2)] h = (
  L26x4 mk0 E p2 l1 0 0 0 0 0 0 0 0 0 0 0 0 0 0 0 0 .nil 0 s0 n0 ((n0 : Nat) : Int) 0 h (Q26x4 mk0 E)
  ) := (EV_eq (P := Try.prog) (T := T0) rfl cf26 [(.sl s0 n0), (.agg l1), (.ptr p2)] h).trans (r26 mk0 E s0 n0 l1 p2 h)
theorem L26x4xaux (p2 : Option Ad) (l4 : List AV) (i6x0 : Int) (i6x1 : Int) (i6x2 : Int) (i6x3 : Int) (i6x4 : Int) (i6x5 : Int) (i6x6 : Int) (i6x7 : Int) (i6x8 : Int) (i6x9 : Int) (i6x10 : Int) (i6x11 : Int) (i6x12 : Int) (i6x13 : Int) (i6x14 : Int) (i6x15 : Int) (s7 : SA) (n7 : Nat) (s16 : SA) (n16 : Nat) (i17 : Int) (i18 : Int) (h : Heap) (Q : Kont R) : (restrF 458964 ⟨(.any :: .any :: (.g [] true (.ptr p2) :: (.any :: (.box l4 :: (.any :: (.box [(.int .i64 i6x0), (.int .i64 i6x1), (.int .i64 i6x2), (.int .i64 i6x3), (.int .i64 i6x4), (.int .i64 i6x5), (.int .i64 i6x6), (.int .i64 i6x7), (.int .i64 i6x8), (.int .i64 i6x9), (.int .i64 i6x10), (.int .i64 i6x11), (.int .i64 i6x12), (.int .i64 i6x13), (.int .i64 i6x14), (.int .i64 i6x15)] :: (.g [] true (.sl s7 n7) :: (rep 8 (.g [] true (.sl s16 n16) :: (.g [] true (.int .i64 i17) :: (.g [] true (.int .i64 i18) :: (rep 73 [])))))))))))), h⟩ fun σ => evalE M C k26x4 σ (roundQ M C k26x4 458964 208 Q)) = (
  letK ((decide ((i18 : Int) < i17)) : Bool) fun b19 =>
  if b19 = true then
    (
    chk (true = true → (0 : Int) ≤ i18 ∧ (i18 : Int) < ((n16 : Nat) : Int)) <|
    atP (adP s16) true fun a20 =>
    gCells (ldN h (Ad.add a20 (Int.toNat i18 * 5)) 5) true fun l21 =>
    gI .i64 (l21[0]?) true fun i21x0 =>
    gI .i64 (l21[1]?) true fun i21x1 =>
    gI .i64 (l21[2]?) true fun i21x2 =>
    gI .i64 (l21[3]?) true fun i21x3 =>
    gI .i64 (l21[4]?) true fun i21x4 =>
    chk (true = true → (0 : Int) ≤ i21x2 ∧ (i21x2 : Int) < ((16 : Nat) : Int)) <|
    gI .i64 (l4[(0 + Int.toNat i21x2 * 1)]?) true fun i25 =>
    chk (true = true → (0 : Int) ≤ i21x3 ∧ (i21x3 : Int) < ((16 : Nat) : Int)) <|
    gI .i64 (l4[(0 + Int.toNat i21x3 * 1)]?) true fun i29 =>
    letK ((decide ((i21x0 : Int) = 12)) : Bool) fun b47 =>
    if b47 = true then
      (
      letK ((IntKind.wrap .i64 (i25 + i21x4)) : Int) fun i53 =>
      (C 37 [(.ptr p2), (.int .i64 i53)] h).bind fun r54 =>
      gT 2 r54.1 true fun u54 =>
      gI .i64 (some (List.getD u54 0 .opq)) true fun i54x0 =>
      gB (some (List.getD u54 1 .opq)) true fun b54x1 =>
      J26x34 M C p2 l4 i6x0 i6x1 i6x2 i6x3 i6x4 i6x5 i6x6 i6x7 i6x8 i6x9 i6x10 i6x11 i6x12 i6x13 i6x14 i6x15 s7 n7 i21x0 i21x1 i21x2 i21x3 i21x4 i54x0 b54x1 s16 n16 i17 i18 r54.2 Q
      )
    else
      (
      letK ((decide ((i21x0 : Int) = 13)) : Bool) fun b58 =>
      if b58 = true then
        (
        letK ((IntKind.wrap .i64 (i25 + i21x4)) : Int) fun i63 =>
        (C 38 [(.ptr p2), (.int .i64 i63), (.int .i64 i29)] h).bind fun r65 =>
        gB (some r65.1) true fun b65 =>
        J26x33 M C p2 l4 i6x0 i6x1 i6x2 i6x3 i6x4 i6x5 i6x6 i6x7 i6x8 i6x9 i6x10 i6x11 i6x12 i6x13 i6x14 i6x15 s7 n7 i21x0 i21x1 i21x2 i21x3 i21x4 0 b65 s16 n16 i17 i18 r65.2 Q
        )
      else
        (
        letK ((decide ((i21x0 : Int) = 23)) : Bool) fun b67 =>
        if b67 = true then
          (
          (C 31 [(.int .i64 i25), (.int .i64 2)] h).bind fun r69 =>
          gI .i64 (some r69.1) true fun i69 =>
          letK ((decide ((i69 : Int) = 1)) : Bool) fun b70 =>
          if b70 = true then
            (
            letK ((IntKind.wrap .i64 (i25 - 1)) : Int) fun i74 =>
            letK ((IntKind.wrap .i64 (Int.tdiv i74 2)) : Int) fun i75 =>
            newK r69.2 (.cells [(.int .i64 i75)] (.grow 1) 0) fun h_2 =>
            (ldSl h_2 (.pos ⟨List.length r69.2, 0, 0⟩) (1 * 1)).bind fun y77 =>
            (apnd h_2 (.sl s7 n7) 1 8 y77 1).bind fun r77 =>
            gL (some r77.1) true fun s77 n77 =>
            J26x26 M C p2 l4 i6x0 i6x1 i6x2 i6x3 i6x4 i6x5 i6x6 i6x7 i6x8 i6x9 i6x10 i6x11 i6x12 i6x13 i6x14 i6x15 s77 n77 i21x0 i21x1 i21x2 i21x3 i21x4 0 b70 s16 n16 i17 i18 r77.2 Q
            )
          else
            (
            J26x26 M C p2 l4 i6x0 i6x1 i6x2 i6x3 i6x4 i6x5 i6x6 i6x7 i6x8 i6x9 i6x10 i6x11 i6x12 i6x13 i6x14 i6x15 s7 n7 i21x0 i21x1 i21x2 i21x3 i21x4 0 b70 s16 n16 i17 i18 r69.2 Q
            )
          )
        else
          (
          (C 39 [(.int .i64 i21x0), (.int .i64 i25), (.int .i64 i29), (.int .i64 i21x4)] h).bind fun r39 =>
          gT 2 r39.1 true fun u39 =>
          gI .i64 (some (List.getD u39 0 .opq)) true fun i39x0 =>
          gB (some (List.getD u39 1 .opq)) true fun b39x1 =>
          if (!b39x1) = true then
            (
            chk (true = true → 0 + 16 ≤ List.length l4) <|
            chk (List.length ((List.drop 0 l4).take 16) = 16 ∧ flatL ((List.drop 0 l4).take 16) = true ∧ 0 + 16 ≤ 16) <|
            letK (splice 0 ((List.drop 0 l4).take 16) [(.int .i64 i6x0), (.int .i64 i6x1), (.int .i64 i6x2), (.int .i64 i6x3), (.int .i64 i6x4), (.int .i64 i6x5), (.int .i64 i6x6), (.int .i64 i6x7), (.int .i64 i6x8), (.int .i64 i6x9), (.int .i64 i6x10), (.int .i64 i6x11), (.int .i64 i6x12), (.int .i64 i6x13), (.int .i64 i6x14), (.int .i64 i6x15)]) fun lx =>
            Q .ret (S26xr lx s7 n7 1 r39.2)
            )
          else
            (
            J26x32 M C p2 l4 i6x0 i6x1 i6x2 i6x3 i6x4 i6x5 i6x6 i6x7 i6x8 i6x9 i6x10 i6x11 i6x12 i6x13 i6x14 i6x15 s7 n7 i21x0 i21x1 i21x2 i21x3 i21x4 i39x0 b39x1 s16 n16 i17 i18 r39.2 Q
            )
          )
        )
      )
    )
  else
    (
    Q (.exit 0) (S26xe0 l4 i6x0 i6x1 i6x2 i6x3 i6x4 i6x5 i6x6 i6x7 i6x8 i6x9 i6x10 i6x11 i6x12 i6x13 i6x14 i6x15 s7 n7 h)
    )
  ) := by kernel_rfl
theorem L26x4xeq (p2 : Option Ad) (l4 : List AV) (i6x0 : Int) (i6x1 : Int) (i6x2 : Int) (i6x3 : Int) (i6x4 : Int) (i6x5 : Int) (i6x6 : Int) (i6x7 : Int) (i6x8 : Int) (i6x9 : Int) (i6x10 : Int) (i6x11 : Int) (i6x12 : Int) (i6x13 : Int) (i6x14 : Int) (i6x15 : Int) (s7 : SA) (n7 : Nat) (s16 : SA) (n16 : Nat) (i17 : Int) (i18 : Int) (h : Heap) (Q : Kont R) : L26x4 mk0 C p2 l4 i6x0 i6x1 i6x2 i6x3 i6x4 i6x5 i6x6 i6x7 i6x8 i6x9 i6x10 i6x11 i6x12 i6x13 i6x14 i6x15 s7 n7 s16 n16 i17 i18 h Q = (
  letK ((decide ((i18 : Int) < i17)) : Bool) fun b19 =>
  if b19 = true then
    (
    chk (true = true → (0 : Int) ≤ i18 ∧ (i18 : Int) < ((n16 : Nat) : Int)) <|
    atP (adP s16) true fun a20 =>
    gCells (ldN h (Ad.add a20 (Int.toNat i18 * 5)) 5) true fun l21 =>
    gI .i64 (l21[0]?) true fun i21x0 =>
    gI .i64 (l21[1]?) true fun i21x1 =>
    gI .i64 (l21[2]?) true fun i21x2 =>
    gI .i64 (l21[3]?) true fun i21x3 =>
    gI .i64 (l21[4]?) true fun i21x4 =>
    chk (true = true → (0 : Int) ≤ i21x2 ∧ (i21x2 : Int) < ((16 : Nat) : Int)) <|
    gI .i64 (l4[(0 + Int.toNat i21x2 * 1)]?) true fun i25 =>
    chk (true = true → (0 : Int) ≤ i21x3 ∧ (i21x3 : Int) < ((16 : Nat) : Int)) <|
    gI .i64 (l4[(0 + Int.toNat i21x3 * 1)]?) true fun i29 =>
    letK ((decide ((i21x0 : Int) = 12)) : Bool) fun b47 =>
    if b47 = true then
      (
      letK ((IntKind.wrap .i64 (i25 + i21x4)) : Int) fun i53 =>
      (C 37 [(.ptr p2), (.int .i64 i53)] h).bind fun r54 =>
      gT 2 r54.1 true fun u54 =>
      gI .i64 (some (List.getD u54 0 .opq)) true fun i54x0 =>
      gB (some (List.getD u54 1 .opq)) true fun b54x1 =>
      J26x34 mk0 C p2 l4 i6x0 i6x1 i6x2 i6x3 i6x4 i6x5 i6x6 i6x7 i6x8 i6x9 i6x10 i6x11 i6x12 i6x13 i6x14 i6x15 s7 n7 i21x0 i21x1 i21x2 i21x3 i21x4 i54x0 b54x1 s16 n16 i17 i18 r54.2 Q
      )
    else
      (
      letK ((decide ((i21x0 : Int) = 13)) : Bool) fun b58 =>
      if b58 = true then
        (
        letK ((IntKind.wrap .i64 (i25 + i21x4)) : Int) fun i63 =>
        (C 38 [(.ptr p2), (.int .i64 i63), (.int .i64 i29)] h).bind fun r65 =>
        gB (some r65.1) true fun b65 =>
        J26x33 mk0 C p2 l4 i6x0 i6x1 i6x2 i6x3 i6x4 i6x5 i6x6 i6x7 i6x8 i6x9 i6x10 i6x11 i6x12 i6x13 i6x14 i6x15 s7 n7 i21x0 i21x1 i21x2 i21x3 i21x4 0 b65 s16 n16 i17 i18 r65.2 Q
        )
      else
        (
        letK ((decide ((i21x0 : Int) = 23)) : Bool) fun b67 =>
        if b67 = true then
          (
          (C 31 [(.int .i64 i25), (.int .i64 2)] h).bind fun r69 =>
          gI .i64 (some r69.1) true fun i69 =>
          letK ((decide ((i69 : Int) = 1)) : Bool) fun b70 =>
          if b70 = true then
            (
            letK ((IntKind.wrap .i64 (i25 - 1)) : Int) fun i74 =>
            letK ((IntKind.wrap .i64 (Int.tdiv i74 2)) : Int) fun i75 =>
            newK r69.2 (.cells [(.int .i64 i75)] (.grow 1) 0) fun h_2 =>
            (ldSl h_2 (.pos ⟨List.length r69.2, 0, 0⟩) (1 * 1)).bind fun y77 =>
            (apnd h_2 (.sl s7 n7) 1 8 y77 1).bind fun r77 =>
            gL (some r77.1) true fun s77 n77 =>
            J26x26 mk0 C p2 l4 i6x0 i6x1 i6x2 i6x3 i6x4 i6x5 i6x6 i6x7 i6x8 i6x9 i6x10 i6x11 i6x12 i6x13 i6x14 i6x15 s77 n77 i21x0 i21x1 i21x2 i21x3 i21x4 0 b70 s16 n16 i17 i18 r77.2 Q
            )
          else
            (
            J26x26 mk0 C p2 l4 i6x0 i6x1 i6x2 i6x3 i6x4 i6x5 i6x6 i6x7 i6x8 i6x9 i6x10 i6x11 i6x12 i6x13 i6x14 i6x15 s7 n7 i21x0 i21x1 i21x2 i21x3 i21x4 0 b70 s16 n16 i17 i18 r69.2 Q
            )
          )
        else
          (
          (C 39 [(.int .i64 i21x0), (.int .i64 i25), (.int .i64 i29), (.int .i64 i21x4)] h).bind fun r39 =>
          gT 2 r39.1 true fun u39 =>
          gI .i64 (some (List.getD u39 0 .opq)) true fun i39x0 =>
          gB (some (List.getD u39 1 .opq)) true fun b39x1 =>
          if (!b39x1) = true then
            (
            chk (true = true → 0 + 16 ≤ List.length l4) <|
            chk (List.length ((List.drop 0 l4).take 16) = 16 ∧ flatL ((List.drop 0 l4).take 16) = true ∧ 0 + 16 ≤ 16) <|
            letK (splice 0 ((List.drop 0 l4).take 16) [(.int .i64 i6x0), (.int .i64 i6x1), (.int .i64 i6x2), (.int .i64 i6x3), (.int .i64 i6x4), (.int .i64 i6x5), (.int .i64 i6x6), (.int .i64 i6x7), (.int .i64 i6x8), (.int .i64 i6x9), (.int .i64 i6x10), (.int .i64 i6x11), (.int .i64 i6x12), (.int .i64 i6x13), (.int .i64 i6x14), (.int .i64 i6x15)]) fun lx =>
            Q .ret (S26xr lx s7 n7 1 r39.2)
            )
          else
            (
            J26x32 mk0 C p2 l4 i6x0 i6x1 i6x2 i6x3 i6x4 i6x5 i6x6 i6x7 i6x8 i6x9 i6x10 i6x11 i6x12 i6x13 i6x14 i6x15 s7 n7 i21x0 i21x1 i21x2 i21x3 i21x4 i39x0 b39x1 s16 n16 i17 i18 r39.2 Q
            )
          )
        )
      )
    )
  else
    (
    Q (.exit 0) (S26xe0 l4 i6x0 i6x1 i6x2 i6x3 i6x4 i6x5 i6x6 i6x7 i6x8 i6x9 i6x10 i6x11 i6x12 i6x13 i6x14 i6x15 s7 n7 h)
    )
  ) := loop_eqn C k26x4 458964 208 (.any :: .any :: (.g [] true (.ptr p2) :: (.any :: (.box l4 :: (.any :: (.box [(.int .i64 i6x0), (.int .i64 i6x1), (.int .i64 i6x2), (.int .i64 i6x3), (.int .i64 i6x4), (.int .i64 i6x5), (.int .i64 i6x6), (.int .i64 i6x7), (.int .i64 i6x8), (.int .i64 i6x9), (.int .i64 i6x10), (.int .i64 i6x11), (.int .i64 i6x12), (.int .i64 i6x13), (.int .i64 i6x14), (.int .i64 i6x15)] :: (.g [] true (.sl s7 n7) :: (rep 8 (.g [] true (.sl s16 n16) :: (.g [] true (.int .i64 i17) :: (.g [] true (.int .i64 i18) :: (rep 73 [])))))))))))) h Q (by kernel_rfl) (L26x4xaux mk0 C p2 l4 i6x0 i6x1 i6x2 i6x3 i6x4 i6x5 i6x6 i6x7 i6x8 i6x9 i6x10 i6x11 i6x12 i6x13 i6x14 i6x15 s7 n7 s16 n16 i17 i18 h Q)
theorem J26x34xaux (M : Mk) (C : Cal) (p2 : Option Ad) (l4 : List AV) (i6x0 : Int) (i6x1 : Int) (i6x2 : Int) (i6x3 : Int) (i6x4 : Int) (i6x5 : Int) (i6x6 : Int) (i6x7 : Int) (i6x8 : Int) (i6x9 : Int) (i6x10 : Int) (i6x11 : Int) (i6x12 : Int) (i6x13 : Int) (i6x14 : Int) (i6x15 : Int) (s7 : SA) (n7 : Nat) (i10x0 : Int) (i10x1 : Int) (i10x2 : Int) (i10x3 : Int) (i10x4 : Int) (i13 : Int) (b14 : Bool) (s16 : SA) (n16 : Nat) (i17 : Int) (i18 : Int) (h : Heap) (Q : Kont R) : (forceK tk (.any :: .any :: (.g [] true (.ptr p2) :: (.any :: (.box l4 :: (.any :: (.box [(.int .i64 i6x0), (.int .i64 i6x1), (.int .i64 i6x2), (.int .i64 i6x3), (.int .i64 i6x4), (.int .i64 i6x5), (.int .i64 i6x6), (.int .i64 i6x7), (.int .i64 i6x8), (.int .i64 i6x9), (.int .i64 i6x10), (.int .i64 i6x11), (.int .i64 i6x12), (.int .i64 i6x13), (.int .i64 i6x14), (.int .i64 i6x15)] :: (.g [] true (.sl s7 n7) :: (.any :: .any :: (.box [(.int .i64 i10x0), (.int .i64 i10x1), (.int .i64 i10x2), (.int .i64 i10x3), (.int .i64 i10x4)] :: (.any :: .any :: (.g [] true (.int .i64 i13) :: (.g [] true (.bool b14) :: (.any :: (.g [] true (.sl s16 n16) :: (.g [] true (.int .i64 i17) :: (.g [] true (.int .i64 i18) :: (rep 73 []))))))))))))))))) fun e => (blockQ 2 (seqQ (evalE M C k26x16) (seqQ (evalE M C k26x14) (blockQ 1 (seqQ (evalE M C k26x10) (seqQ (evalE M C k26x9) (roundQ M C k26x4 458964 208 Q))))))) .normal ⟨e, h⟩) = (
  if (!b14) = true then
    (
    chk (true = true → 0 + 16 ≤ List.length l4) <|
    chk (List.length ((List.drop 0 l4).take 16) = 16 ∧ flatL ((List.drop 0 l4).take 16) = true ∧ 0 + 16 ≤ 16) <|
    letK (splice 0 ((List.drop 0 l4).take 16) [(.int .i64 i6x0), (.int .i64 i6x1), (.int .i64 i6x2), (.int .i64 i6x3), (.int .i64 i6x4), (.int .i64 i6x5), (.int .i64 i6x6), (.int .i64 i6x7), (.int .i64 i6x8), (.int .i64 i6x9), (.int .i64 i6x10), (.int .i64 i6x11), (.int .i64 i6x12), (.int .i64 i6x13), (.int .i64 i6x14), (.int .i64 i6x15)]) fun lx =>
    Q .ret (S26xr lx s7 n7 5 h)
    )
  else
    (
    (C 40 [(.agg [(.int .i64 i10x0), (.int .i64 i10x1), (.int .i64 i10x2), (.int .i64 i10x3), (.int .i64 i10x4)])] h).bind fun r83 =>
    gI .i64 (some r83.1) true fun i83 =>
    letK ((!decide ((i83 : Int) = 0)) : Bool) fun b85 =>
    if b85 = true then
      (
      chk (true = true → (0 : Int) ≤ i83 ∧ (i83 : Int) < ((16 : Nat) : Int)) <|
      chk (true = true ∧ (0 + Int.toNat i83 * 1) < List.length l4) <|
      letK (List.set l4 (0 + Int.toNat i83 * 1) (.int .i64 i13)) fun lx =>
      J26x43 M C p2 lx i6x0 i6x1 i6x2 i6x3 i6x4 i6x5 i6x6 i6x7 i6x8 i6x9 i6x10 i6x11 i6x12 i6x13 i6x14 i6x15 s7 n7 s16 n16 i17 i18 r83.2 Q
      )
    else
      (
      J26x43 M C p2 l4 i6x0 i6x1 i6x2 i6x3 i6x4 i6x5 i6x6 i6x7 i6x8 i6x9 i6x10 i6x11 i6x12 i6x13 i6x14 i6x15 s7 n7 s16 n16 i17 i18 r83.2 Q
      )
    )
  ) := by kernel_rfl
theorem J26x34xeq (C : Cal) (p2 : Option Ad) (l4 : List AV) (i6x0 : Int) (i6x1 : Int) (i6x2 : Int) (i6x3 : Int) (i6x4 : Int) (i6x5 : Int) (i6x6 : Int) (i6x7 : Int) (i6x8 : Int) (i6x9 : Int) (i6x10 : Int) (i6x11 : Int) (i6x12 : Int) (i6x13 : Int) (i6x14 : Int) (i6x15 : Int) (s7 : SA) (n7 : Nat) (i10x0 : Int) (i10x1 : Int) (i10x2 : Int) (i10x3 : Int) (i10x4 : Int) (i13 : Int) (b14 : Bool) (s16 : SA) (n16 : Nat) (i17 : Int) (i18 : Int) (h : Heap) (Q : Kont R) : J26x34 mk0 C p2 l4 i6x0 i6x1 i6x2 i6x3 i6x4 i6x5 i6x6 i6x7 i6x8 i6x9 i6x10 i6x11 i6x12 i6x13 i6x14 i6x15 s7 n7 i10x0 i10x1 i10x2 i10x3 i10x4 i13 b14 s16 n16 i17 i18 h Q = (
  if (!b14) = true then
    (
    chk (true = true → 0 + 16 ≤ List.length l4) <|
    chk (List.length ((List.drop 0 l4).take 16) = 16 ∧ flatL ((List.drop 0 l4).take 16) = true ∧ 0 + 16 ≤ 16) <|
    letK (splice 0 ((List.drop 0 l4).take 16) [(.int .i64 i6x0), (.int .i64 i6x1), (.int .i64 i6x2), (.int .i64 i6x3), (.int .i64 i6x4), (.int .i64 i6x5), (.int .i64 i6x6), (.int .i64 i6x7), (.int .i64 i6x8), (.int .i64 i6x9), (.int .i64 i6x10), (.int .i64 i6x11), (.int .i64 i6x12), (.int .i64 i6x13), (.int .i64 i6x14), (.int .i64 i6x15)]) fun lx =>
    Q .ret (S26xr lx s7 n7 5 h)
    )
  else
    (
    (C 40 [(.agg [(.int .i64 i10x0), (.int .i64 i10x1), (.int .i64 i10x2), (.int .i64 i10x3), (.int .i64 i10x4)])] h).bind fun r83 =>
    gI .i64 (some r83.1) true fun i83 =>
    letK ((!decide ((i83 : Int) = 0)) : Bool) fun b85 =>
    if b85 = true then
      (
      chk (true = true → (0 : Int) ≤ i83 ∧ (i83 : Int) < ((16 : Nat) : Int)) <|
      chk (true = true ∧ (0 + Int.toNat i83 * 1) < List.length l4) <|
      letK (List.set l4 (0 + Int.toNat i83 * 1) (.int .i64 i13)) fun lx =>
      J26x43 mk0 C p2 lx i6x0 i6x1 i6x2 i6x3 i6x4 i6x5 i6x6 i6x7 i6x8 i6x9 i6x10 i6x11 i6x12 i6x13 i6x14 i6x15 s7 n7 s16 n16 i17 i18 r83.2 Q
      )
    else
      (
      J26x43 mk0 C p2 l4 i6x0 i6x1 i6x2 i6x3 i6x4 i6x5 i6x6 i6x7 i6x8 i6x9 i6x10 i6x11 i6x12 i6x13 i6x14 i6x15 s7 n7 s16 n16 i17 i18 r83.2 Q
      )
    )
  ) := join_eqn (blockQ 2 (seqQ (evalE mk0 C k26x16) (seqQ (evalE mk0 C k26x14) (blockQ 1 (seqQ (evalE mk0 C k26x10) (seqQ (evalE mk0 C k26x9) (roundQ mk0 C k26x4 458964 208 Q))))))) (.any :: .any :: (.g [] true (.ptr p2) :: (.any :: (.box l4 :: (.any :: (.box [(.int .i64 i6x0), (.int .i64 i6x1), (.int .i64 i6x2), (.int .i64 i6x3), (.int .i64 i6x4), (.int .i64 i6x5), (.int .i64 i6x6), (.int .i64 i6x7), (.int .i64 i6x8), (.int .i64 i6x9), (.int .i64 i6x10), (.int .i64 i6x11), (.int .i64 i6x12), (.int .i64 i6x13), (.int .i64 i6x14), (.int .i64 i6x15)] :: (.g [] true (.sl s7 n7) :: (.any :: .any :: (.box [(.int .i64 i10x0), (.int .i64 i10x1), (.int .i64 i10x2), (.int .i64 i10x3), (.int .i64 i10x4)] :: (.any :: .any :: (.g [] true (.int .i64 i13) :: (.g [] true (.bool b14) :: (.any :: (.g [] true (.sl s16 n16) :: (.g [] true (.int .i64 i17) :: (.g [] true (.int .i64 i18) :: (rep 73 []))))))))))))))))) h (J26x34xaux mk0 C p2 l4 i6x0 i6x1 i6x2 i6x3 i6x4 i6x5 i6x6 i6x7 i6x8 i6x9 i6x10 i6x11 i6x12 i6x13 i6x14 i6x15 s7 n7 i10x0 i10x1 i10x2 i10x3 i10x4 i13 b14 s16 n16 i17 i18 h Q)
theorem J26x33xaux (M : Mk) (C : Cal) (p2 : Option Ad) (l4 : List AV) (i6x0 : Int) (i6x1 : Int) (i6x2 : Int) (i6x3 : Int) (i6x4 : Int) (i6x5 : Int) (i6x6 : Int) (i6x7 : Int) (i6x8 : Int) (i6x9 : Int) (i6x10 : Int) (i6x11 : Int) (i6x12 : Int) (i6x13 : Int) (i6x14 : Int) (i6x15 : Int) (s7 : SA) (n7 : Nat) (i10x0 : Int) (i10x1 : Int) (i10x2 : Int) (i10x3 : Int) (i10x4 : Int) (i13 : Int) (b14 : Bool) (s16 : SA) (n16 : Nat) (i17 : Int) (i18 : Int) (h : Heap) (Q : Kont R) : (forceK tk (.any :: .any :: (.g [] true (.ptr p2) :: (.any :: (.box l4 :: (.any :: (.box [(.int .i64 i6x0), (.int .i64 i6x1), (.int .i64 i6x2), (.int .i64 i6x3), (.int .i64 i6x4), (.int .i64 i6x5), (.int .i64 i6x6), (.int .i64 i6x7), (.int .i64 i6x8), (.int .i64 i6x9), (.int .i64 i6x10), (.int .i64 i6x11), (.int .i64 i6x12), (.int .i64 i6x13), (.int .i64 i6x14), (.int .i64 i6x15)] :: (.g [] true (.sl s7 n7) :: (.any :: .any :: (.box [(.int .i64 i10x0), (.int .i64 i10x1), (.int .i64 i10x2), (.int .i64 i10x3), (.int .i64 i10x4)] :: (.any :: .any :: (.g [] true (.int .i64 i13) :: (.g [] true (.bool b14) :: (.any :: (.g [] true (.sl s16 n16) :: (.g [] true (.int .i64 i17) :: (.g [] true (.int .i64 i18) :: (rep 73 []))))))))))))))))) fun e => (seqQ (evalE M C k26x18) (blockQ 2 (seqQ (evalE M C k26x16) (seqQ (evalE M C k26x14) (blockQ 1 (seqQ (evalE M C k26x10) (seqQ (evalE M C k26x9) (roundQ M C k26x4 458964 208 Q)))))))) .normal ⟨e, h⟩) = (
  J26x34 M C p2 l4 i6x0 i6x1 i6x2 i6x3 i6x4 i6x5 i6x6 i6x7 i6x8 i6x9 i6x10 i6x11 i6x12 i6x13 i6x14 i6x15 s7 n7 i10x0 i10x1 i10x2 i10x3 i10x4 i13 b14 s16 n16 i17 i18 h Q
  ) := by kernel_rfl
theorem J26x33xeq (C : Cal) (p2 : Option Ad) (l4 : List AV) (i6x0 : Int) (i6x1 : Int) (i6x2 : Int) (i6x3 : Int) (i6x4 : Int) (i6x5 : Int) (i6x6 : Int) (i6x7 : Int) (i6x8 : Int) (i6x9 : Int) (i6x10 : Int) (i6x11 : Int) (i6x12 : Int) (i6x13 : Int) (i6x14 : Int) (i6x15 : Int) (s7 : SA) (n7 : Nat) (i10x0 : Int) (i10x1 : Int) (i10x2 : Int) (i10x3 : Int) (i10x4 : Int) (i13 : Int) (b14 : Bool) (s16 : SA) (n16 : Nat) (i17 : Int) (i18 : Int) (h : Heap) (Q : Kont R) : J26x33 mk0 C p2 l4 i6x0 i6x1 i6x2 i6x3 i6x4 i6x5 i6x6 i6x7 i6x8 i6x9 i6x10 i6x11 i6x12 i6x13 i6x14 i6x15 s7 n7 i10x0 i10x1 i10x2 i10x3 i10x4 i13 b14 s16 n16 i17 i18 h Q = (
  J26x34 mk0 C p2 l4 i6x0 i6x1 i6x2 i6x3 i6x4 i6x5 i6x6 i6x7 i6x8 i6x9 i6x10 i6x11 i6x12 i6x13 i6x14 i6x15 s7 n7 i10x0 i10x1 i10x2 i10x3 i10x4 i13 b14 s16 n16 i17 i18 h Q
  ) := join_eqn (seqQ (evalE mk0 C k26x18) (blockQ 2 (seqQ (evalE mk0 C k26x16) (seqQ (evalE mk0 C k26x14) (blockQ 1 (seqQ (evalE mk0 C k26x10) (seqQ (evalE mk0 C k26x9) (roundQ mk0 C k26x4 458964 208 Q)))))))) (.any :: .any :: (.g [] true (.ptr p2) :: (.any :: (.box l4 :: (.any :: (.box [(.int .i64 i6x0), (.int .i64 i6x1), (.int .i64 i6x2), (.int .i64 i6x3), (.int .i64 i6x4), (.int .i64 i6x5), (.int .i64 i6x6), (.int .i64 i6x7), (.int .i64 i6x8), (.int .i64 i6x9), (.int .i64 i6x10), (.int .i64 i6x11), (.int .i64 i6x12), (.int .i64 i6x13), (.int .i64 i6x14), (.int .i64 i6x15)] :: (.g [] true (.sl s7 n7) :: (.any :: .any :: (.box [(.int .i64 i10x0), (.int .i64 i10x1), (.int .i64 i10x2), (.int .i64 i10x3), (.int .i64 i10x4)] :: (.any :: .any :: (.g [] true (.int .i64 i13) :: (.g [] true (.bool b14) :: (.any :: (.g [] true (.sl s16 n16) :: (.g [] true (.int .i64 i17) :: (.g [] true (.int .i64 i18) :: (rep 73 []))))))))))))))))) h (J26x33xaux mk0 C p2 l4 i6x0 i6x1 i6x2 i6x3 i6x4 i6x5 i6x6 i6x7 i6x8 i6x9 i6x10 i6x11 i6x12 i6x13 i6x14 i6x15 s7 n7 i10x0 i10x1 i10x2 i10x3 i10x4 i13 b14 s16 n16 i17 i18 h Q)
theorem J26x26xaux (M : Mk) (C : Cal) (p2 : Option Ad) (l4 : List AV) (i6x0 : Int) (i6x1 : Int) (i6x2 : Int) (i6x3 : Int) (i6x4 : Int) (i6x5 : Int) (i6x6 : Int) (i6x7 : Int) (i6x8 : Int) (i6x9 : Int) (i6x10 : Int) (i6x11 : Int) (i6x12 : Int) (i6x13 : Int) (i6x14 : Int) (i6x15 : Int) (s7 : SA) (n7 : Nat) (i10x0 : Int) (i10x1 : Int) (i10x2 : Int) (i10x3 : Int) (i10x4 : Int) (i13 : Int) (b14 : Bool) (s16 : SA) (n16 : Nat) (i17 : Int) (i18 : Int) (h : Heap) (Q : Kont R) : (forceK tk (.any :: .any :: (.g [] true (.ptr p2) :: (.any :: (.box l4 :: (.any :: (.box [(.int .i64 i6x0), (.int .i64 i6x1), (.int .i64 i6x2), (.int .i64 i6x3), (.int .i64 i6x4), (.int .i64 i6x5), (.int .i64 i6x6), (.int .i64 i6x7), (.int .i64 i6x8), (.int .i64 i6x9), (.int .i64 i6x10), (.int .i64 i6x11), (.int .i64 i6x12), (.int .i64 i6x13), (.int .i64 i6x14), (.int .i64 i6x15)] :: (.g [] true (.sl s7 n7) :: (.any :: .any :: (.box [(.int .i64 i10x0), (.int .i64 i10x1), (.int .i64 i10x2), (.int .i64 i10x3), (.int .i64 i10x4)] :: (.any :: .any :: (.g [] true (.int .i64 i13) :: (.g [] true (.bool b14) :: (.any :: (.g [] true (.sl s16 n16) :: (.g [] true (.int .i64 i17) :: (.g [] true (.int .i64 i18) :: (rep 73 []))))))))))))))))) fun e => (seqQ (evalE M C k26x22) (seqQ (evalE M C k26x20) (seqQ (evalE M C k26x18) (blockQ 2 (seqQ (evalE M C k26x16) (seqQ (evalE M C k26x14) (blockQ 1 (seqQ (evalE M C k26x10) (seqQ (evalE M C k26x9) (roundQ M C k26x4 458964 208 Q)))))))))) .normal ⟨e, h⟩) = (
  J26x32 M C p2 l4 i6x0 i6x1 i6x2 i6x3 i6x4 i6x5 i6x6 i6x7 i6x8 i6x9 i6x10 i6x11 i6x12 i6x13 i6x14 i6x15 s7 n7 i10x0 i10x1 i10x2 i10x3 i10x4 i13 b14 s16 n16 i17 i18 h Q
  ) := by kernel_rfl
theorem J26x26xeq (C : Cal) (p2 : Option Ad) (l4 : List AV) (i6x0 : Int) (i6x1 : Int) (i6x2 : Int) (i6x3 : Int) (i6x4 : Int) (i6x5 : Int) (i6x6 : Int) (i6x7 : Int) (i6x8 : Int) (i6x9 : Int) (i6x10 : Int) (i6x11 : Int) (i6x12 : Int) (i6x13 : Int) (i6x14 : Int) (i6x15 : Int) (s7 : SA) (n7 : Nat) (i10x0 : Int) (i10x1 : Int) (i10x2 : Int) (i10x3 : Int) (i10x4 : Int) (i13 : Int) (b14 : Bool) (s16 : SA) (n16 : Nat) (i17 : Int) (i18 : Int) (h : Heap) (Q : Kont R) : J26x26 mk0 C p2 l4 i6x0 i6x1 i6x2 i6x3 i6x4 i6x5 i6x6 i6x7 i6x8 i6x9 i6x10 i6x11 i6x12 i6x13 i6x14 i6x15 s7 n7 i10x0 i10x1 i10x2 i10x3 i10x4 i13 b14 s16 n16 i17 i18 h Q = (
  J26x32 mk0 C p2 l4 i6x0 i6x1 i6x2 i6x3 i6x4 i6x5 i6x6 i6x7 i6x8 i6x9 i6x10 i6x11 i6x12 i6x13 i6x14 i6x15 s7 n7 i10x0 i10x1 i10x2 i10x3 i10x4 i13 b14 s16 n16 i17 i18 h Q
  ) := join_eqn (seqQ (evalE mk0 C k26x22) (seqQ (evalE mk0 C k26x20) (seqQ (evalE mk0 C k26x18) (blockQ 2 (seqQ (evalE mk0 C k26x16) (seqQ (evalE mk0 C k26x14) (blockQ 1 (seqQ (evalE mk0 C k26x10) (seqQ (evalE mk0 C k26x9) (roundQ mk0 C k26x4 458964 208 Q)))))))))) (.any :: .any :: (.g [] true (.ptr p2) :: (.any :: (.box l4 :: (.any :: (.box [(.int .i64 i6x0), (.int .i64 i6x1), (.int .i64 i6x2), (.int .i64 i6x3), (.int .i64 i6x4), (.int .i64 i6x5), (.int .i64 i6x6), (.int .i64 i6x7), (.int .i64 i6x8), (.int .i64 i6x9), (.int .i64 i6x10), (.int .i64 i6x11), (.int .i64 i6x12), (.int .i64 i6x13), (.int .i64 i6x14), (.int .i64 i6x15)] :: (.g [] true (.sl s7 n7) :: (.any :: .any :: (.box [(.int .i64 i10x0), (.int .i64 i10x1), (.int .i64 i10x2), (.int .i64 i10x3), (.int .i64 i10x4)] :: (.any :: .any :: (.g [] true (.int .i64 i13) :: (.g [] true (.bool b14) :: (.any :: (.g [] true (.sl s16 n16) :: (.g [] true (.int .i64 i17) :: (.g [] true (.int .i64 i18) :: (rep 73 []))))))))))))))))) h (J26x26xaux mk0 C p2 l4 i6x0 i6x1 i6x2 i6x3 i6x4 i6x5 i6x6 i6x7 i6x8 i6x9 i6x10 i6x11 i6x12 i6x13 i6x14 i6x15 s7 n7 i10x0 i10x1 i10x2 i10x3 i10x4 i13 b14 s16 n16 i17 i18 h Q)
theorem J26x32xaux (M : Mk) (C : Cal) (p2 : Option Ad) (l4 : List AV) (i6x0 : Int) (i6x1 : Int) (i6x2 : Int) (i6x3 : Int) (i6x4 : Int) (i6x5 : Int) (i6x6 : Int) (i6x7 : Int) (i6x8 : Int) (i6x9 : Int) (i6x10 : Int) (i6x11 : Int) (i6x12 : Int) (i6x13 : Int) (i6x14 : Int) (i6x15 : Int) (s7 : SA) (n7 : Nat) (i10x0 : Int) (i10x1 : Int) (i10x2 : Int) (i10x3 : Int) (i10x4 : Int) (i13 : Int) (b14 : Bool) (s16 : SA) (n16 : Nat) (i17 : Int) (i18 : Int) (h : Heap) (Q : Kont R) : (forceK tk (.any :: .any :: (.g [] true (.ptr p2) :: (.any :: (.box l4 :: (.any :: (.box [(.int .i64 i6x0), (.int .i64 i6x1), (.int .i64 i6x2), (.int .i64 i6x3), (.int .i64 i6x4), (.int .i64 i6x5), (.int .i64 i6x6), (.int .i64 i6x7), (.int .i64 i6x8), (.int .i64 i6x9), (.int .i64 i6x10), (.int .i64 i6x11), (.int .i64 i6x12), (.int .i64 i6x13), (.int .i64 i6x14), (.int .i64 i6x15)] :: (.g [] true (.sl s7 n7) :: (.any :: .any :: (.box [(.int .i64 i10x0), (.int .i64 i10x1), (.int .i64 i10x2), (.int .i64 i10x3), (.int .i64 i10x4)] :: (.any :: .any :: (.g [] true (.int .i64 i13) :: (.g [] true (.bool b14) :: (.any :: (.g [] true (.sl s16 n16) :: (.g [] true (.int .i64 i17) :: (.g [] true (.int .i64 i18) :: (rep 73 []))))))))))))))))) fun e => (seqQ (evalE M C k26x20) (seqQ (evalE M C k26x18) (blockQ 2 (seqQ (evalE M C k26x16) (seqQ (evalE M C k26x14) (blockQ 1 (seqQ (evalE M C k26x10) (seqQ (evalE M C k26x9) (roundQ M C k26x4 458964 208 Q))))))))) .normal ⟨e, h⟩) = (
  J26x33 M C p2 l4 i6x0 i6x1 i6x2 i6x3 i6x4 i6x5 i6x6 i6x7 i6x8 i6x9 i6x10 i6x11 i6x12 i6x13 i6x14 i6x15 s7 n7 i10x0 i10x1 i10x2 i10x3 i10x4 i13 b14 s16 n16 i17 i18 h Q
  ) := by kernel_rfl
theorem J26x32xeq (C : Cal) (p2 : Option Ad) (l4 : List AV) (i6x0 : Int) (i6x1 : Int) (i6x2 : Int) (i6x3 : Int) (i6x4 : Int) (i6x5 : Int) (i6x6 : Int) (i6x7 : Int) (i6x8 : Int) (i6x9 : Int) (i6x10 : Int) (i6x11 : Int) (i6x12 : Int) (i6x13 : Int) (i6x14 : Int) (i6x15 : Int) (s7 : SA) (n7 : Nat) (i10x0 : Int) (i10x1 : Int) (i10x2 : Int) (i10x3 : Int) (i10x4 : Int) (i13 : Int) (b14 : Bool) (s16 : SA) (n16 : Nat) (i17 : Int) (i18 : Int) (h : Heap) (Q : Kont R) : J26x32 mk0 C p2 l4 i6x0 i6x1 i6x2 i6x3 i6x4 i6x5 i6x6 i6x7 i6x8 i6x9 i6x10 i6x11 i6x12 i6x13 i6x14 i6x15 s7 n7 i10x0 i10x1 i10x2 i10x3 i10x4 i13 b14 s16 n16 i17 i18 h Q = (
  J26x33 mk0 C p2 l4 i6x0 i6x1 i6x2 i6x3 i6x4 i6x5 i6x6 i6x7 i6x8 i6x9 i6x10 i6x11 i6x12 i6x13 i6x14 i6x15 s7 n7 i10x0 i10x1 i10x2 i10x3 i10x4 i13 b14 s16 n16 i17 i18 h Q
  ) := join_eqn (seqQ (evalE mk0 C k26x20) (seqQ (evalE mk0 C k26x18) (blockQ 2 (seqQ (evalE mk0 C k26x16) (seqQ (evalE mk0 C k26x14) (blockQ 1 (seqQ (evalE mk0 C k26x10) (seqQ (evalE mk0 C k26x9) (roundQ mk0 C k26x4 458964 208 Q))))))))) (.any :: .any :: (.g [] true (.ptr p2) :: (.any :: (.box l4 :: (.any :: (.box [(.int .i64 i6x0), (.int .i64 i6x1), (.int .i64 i6x2), (.int .i64 i6x3), (.int .i64 i6x4), (.int .i64 i6x5), (.int .i64 i6x6), (.int .i64 i6x7), (.int .i64 i6x8), (.int .i64 i6x9), (.int .i64 i6x10), (.int .i64 i6x11), (.int .i64 i6x12), (.int .i64 i6x13), (.int .i64 i6x14), (.int .i64 i6x15)] :: (.g [] true (.sl s7 n7) :: (.any :: .any :: (.box [(.int .i64 i10x0), (.int .i64 i10x1), (.int .i64 i10x2), (.int .i64 i10x3), (.int .i64 i10x4)] :: (.any :: .any :: (.g [] true (.int .i64 i13) :: (.g [] true (.bool b14) :: (.any :: (.g [] true (.sl s16 n16) :: (.g [] true (.int .i64 i17) :: (.g [] true (.int .i64 i18) :: (rep 73 []))))))))))))))))) h (J26x32xaux mk0 C p2 l4 i6x0 i6x1 i6x2 i6x3 i6x4 i6x5 i6x6 i6x7 i6x8 i6x9 i6x10 i6x11 i6x12 i6x13 i6x14 i6x15 s7 n7 i10x0 i10x1 i10x2 i10x3 i10x4 i13 b14 s16 n16 i17 i18 h Q)
theorem J26x43xaux (M : Mk) (C : Cal) (p2 : Option Ad) (l4 : List AV) (i6x0 : Int) (i6x1 : Int) (i6x2 : Int) (i6x3 : Int) (i6x4 : Int) (i6x5 : Int) (i6x6 : Int) (i6x7 : Int) (i6x8 : Int) (i6x9 : Int) (i6x10 : Int) (i6x11 : Int) (i6x12 : Int) (i6x13 : Int) (i6x14 : Int) (i6x15 : Int) (s7 : SA) (n7 : Nat) (s16 : SA) (n16 : Nat) (i17 : Int) (i18 : Int) (h : Heap) (Q : Kont R) : (forceK tk (.any :: .any :: (.g [] true (.ptr p2) :: (.any :: (.box l4 :: (.any :: (.box [(.int .i64 i6x0), (.int .i64 i6x1), (.int .i64 i6x2), (.int .i64 i6x3), (.int .i64 i6x4), (.int .i64 i6x5), (.int .i64 i6x6), (.int .i64 i6x7), (.int .i64 i6x8), (.int .i64 i6x9), (.int .i64 i6x10), (.int .i64 i6x11), (.int .i64 i6x12), (.int .i64 i6x13), (.int .i64 i6x14), (.int .i64 i6x15)] :: (.g [] true (.sl s7 n7) :: (rep 8 (.g [] true (.sl s16 n16) :: (.g [] true (.int .i64 i17) :: (.g [] true (.int .i64 i18) :: (rep 73 [])))))))))))) fun e => (blockQ 1 (seqQ (evalE M C k26x10) (seqQ (evalE M C k26x9) (roundQ M C k26x4 458964 208 Q)))) .normal ⟨e, h⟩) = (
  letK ((IntKind.wrap .i64 (i18 + 1)) : Int) fun i89 =>
  L26x4 M C p2 l4 i6x0 i6x1 i6x2 i6x3 i6x4 i6x5 i6x6 i6x7 i6x8 i6x9 i6x10 i6x11 i6x12 i6x13 i6x14 i6x15 s7 n7 s16 n16 i17 i89 h Q
  ) := by kernel_rfl
theorem J26x43xeq (C : Cal) (p2 : Option Ad) (l4 : List AV) (i6x0 : Int) (i6x1 : Int) (i6x2 : Int) (i6x3 : Int) (i6x4 : Int) (i6x5 : Int) (i6x6 : Int) (i6x7 : Int) (i6x8 : Int) (i6x9 : Int) (i6x10 : Int) (i6x11 : Int) (i6x12 : Int) (i6x13 : Int) (i6x14 : Int) (i6x15 : Int) (s7 : SA) (n7 : Nat) (s16 : SA) (n16 : Nat) (i17 : Int) (i18 : Int) (h : Heap) (Q : Kont R) : J26x43 mk0 C p2 l4 i6x0 i6x1 i6x2 i6x3 i6x4 i6x5 i6x6 i6x7 i6x8 i6x9 i6x10 i6x11 i6x12 i6x13 i6x14 i6x15 s7 n7 s16 n16 i17 i18 h Q = (
  letK ((IntKind.wrap .i64 (i18 + 1)) : Int) fun i89 =>
  L26x4 mk0 C p2 l4 i6x0 i6x1 i6x2 i6x3 i6x4 i6x5 i6x6 i6x7 i6x8 i6x9 i6x10 i6x11 i6x12 i6x13 i6x14 i6x15 s7 n7 s16 n16 i17 i89 h Q
  ) := join_eqn (blockQ 1 (seqQ (evalE mk0 C k26x10) (seqQ (evalE mk0 C k26x9) (roundQ mk0 C k26x4 458964 208 Q)))) (.any :: .any :: (.g [] true (.ptr p2) :: (.any :: (.box l4 :: (.any :: (.box [(.int .i64 i6x0), (.int .i64 i6x1), (.int .i64 i6x2), (.int .i64 i6x3), (.int .i64 i6x4), (.int .i64 i6x5), (.int .i64 i6x6), (.int .i64 i6x7), (.int .i64 i6x8), (.int .i64 i6x9), (.int .i64 i6x10), (.int .i64 i6x11), (.int .i64 i6x12), (.int .i64 i6x13), (.int .i64 i6x14), (.int .i64 i6x15)] :: (.g [] true (.sl s7 n7) :: (rep 8 (.g [] true (.sl s16 n16) :: (.g [] true (.int .i64 i17) :: (.g [] true (.int .i64 i18) :: (rep 73 [])))))))))))) h (J26x43xaux mk0 C p2 l4 i6x0 i6x1 i6x2 i6x3 i6x4 i6x5 i6x6 i6x7 i6x8 i6x9 i6x10 i6x11 i6x12 i6x13 i6x14 i6x15 s7 n7 s16 n16 i17 i18 h Q)
theorem X26x4xr (M : Mk) (C : Cal) (l6 : List AV) (s7 : SA) (n7 : Nat) (i8 : Int) (h : Heap) : Q26x4 M C .ret (S26xr l6 s7 n7 i8 h) = (
  chk (true = true → 0 + 16 ≤ List.length l6) <|
  some (.tup [(.agg ((List.drop 0 l6).take 16)), (.sl s7 n7), (.int .i64 i8)], h)
  ) := by kernel_rfl
theorem X26x4xe0 (M : Mk) (C : Cal) (l4 : List AV) (i6x0 : Int) (i6x1 : Int) (i6x2 : Int) (i6x3 : Int) (i6x4 : Int) (i6x5 : Int) (i6x6 : Int) (i6x7 : Int) (i6x8 : Int) (i6x9 : Int) (i6x10 : Int) (i6x11 : Int) (i6x12 : Int) (i6x13 : Int) (i6x14 : Int) (i6x15 : Int) (s7 : SA) (n7 : Nat) (h : Heap) : Q26x4 M C (.exit 0) (S26xe0 l4 i6x0 i6x1 i6x2 i6x3 i6x4 i6x5 i6x6 i6x7 i6x8 i6x9 i6x10 i6x11 i6x12 i6x13 i6x14 i6x15 s7 n7 h) = (
  chk (true = true → 0 + 16 ≤ List.length l4) <|
  chk (List.length ((List.drop 0 l4).take 16) = 16 ∧ flatL ((List.drop 0 l4).take 16) = true ∧ 0 + 16 ≤ 16) <|
  letK (splice 0 ((List.drop 0 l4).take 16) [(.int .i64 i6x0), (.int .i64 i6x1), (.int .i64 i6x2), (.int .i64 i6x3), (.int .i64 i6x4), (.int .i64 i6x5), (.int .i64 i6x6), (.int .i64 i6x7), (.int .i64 i6x8), (.int .i64 i6x9), (.int .i64 i6x10), (.int .i64 i6x11), (.int .i64 i6x12), (.int .i64 i6x13), (.int .i64 i6x14), (.int .i64 i6x15)]) fun lx =>
  chk (true = true → 0 + 16 ≤ List.length lx) <|
  some (.tup [(.agg ((List.drop 0 lx).take 16)), (.sl s7 n7), (.int .i64 0)], h)
  ) := by kernel_rfl
def k10x5 : AC := .ret
def k10x4 : AC := .seq (.mask 16) k10x5
def k10x3 : AC := .mask 3
def k10x2 : AC := .seq (.cond (.tmp 20)
   (.seq (.ops false [
      ⟨(some 4), .move (.c (.bool false)), none, []⟩]) k10x4)
   (.skip)) k10x3
def k10x14 : AC := .exit 0
def k10x13 : AC := .mask 29360162
def k10x19 : AC := .join 29360162
def k10x18 : AC := .seq (.cond (.tmp 35)
   (.ops false [
      ⟨(some 36), .move (.tmp 5), none, []⟩,
      ⟨(some 37), .load (.agg [(.int .i64), (.int .i64), (.int .i64), (.int .i64), (.int .i64)]) (.tmp 7), none, []⟩,
      ⟨(some 38), .buildSl [(.int .i64 0), (.int .i64 0), (.int .i64 0), (.int .i64 0), (.int .i64 0)] 5 [(0, (.tmp 37))], none, []⟩,
      ⟨(some 39), .append [(.int .i64 0), (.int .i64 0), (.int .i64 0), (.int .i64 0), (.int .i64 0)] 5 40 (.tmp 36) (.tmp 38), none, []⟩,
      ⟨(some 5), .move (.tmp 39), none, []⟩])
   (.skip)) k10x19
def k10x17 : AC := .seq (.ops true [
    ⟨(some 28), .fieldAddr 0 (.tmp 7), none, []⟩,
    ⟨(some 29), .load (.cell (.int .i64)) (.tmp 28), none, []⟩,
    ⟨(some 30), .bin .other .neq (.tmp 29) (.c (.int .i64 14)), none, []⟩,
    ⟨(some 31), .move (.tmp 30), none, []⟩,
    ⟨(some 32), .fieldAddr 0 (.tmp 7), (some (31, true)), []⟩,
    ⟨(some 33), .load (.cell (.int .i64)) (.tmp 32), (some (31, true)), []⟩,
    ⟨(some 34), .bin .other .neq (.tmp 33) (.c (.int .i64 15)), (some (31, true)), []⟩,
    ⟨(some 35), .pick (.tmp 31) (.tmp 34) (.c (.bool false)), none, []⟩]) k10x18
def k10x16 : AC := .mask 29360162
def k10x15 : AC := .ops false [
    ⟨(some 40), .bin .other .add (.tmp 24) (.c (.int .i64 1)), none, []⟩,
    ⟨(some 24), .move (.tmp 40), none, []⟩]
def k10x12 : AC := .seq (.seq (.block 1 (.seq (.ops false [
     ⟨(some 26), .indexAddr 5 (.tmp 22) (.tmp 24), none, []⟩,
     ⟨(some 27), .load (.agg [(.int .i64), (.int .i64), (.int .i64), (.int .i64), (.int .i64)]) (.tmp 26), none, []⟩,
     ⟨(some 7), .allocL [(.int .i64 0), (.int .i64 0), (.int .i64 0), (.int .i64 0), (.int .i64 0)], none, []⟩,
     ⟨none, .store 5 (.tmp 7) (.tmp 27), none, []⟩]) k10x17)) k10x16) k10x15
def k10x11 : AC := .seq (.seq (.cond (.tmp 25)
   (.skip)
   (.seq (.mask 34) k10x14)) k10x13) k10x12
def k10x10 : AC := .seq (.ops false [
    ⟨(some 25), .bin .other .lss (.tmp 24) (.tmp 23), none, []⟩]) k10x11
def k10x9 : AC := .mask 34
def k10x8 : AC := .seq (.block 0 (.loop 29360162 34 k10x10)) k10x9
def k10x29 : AC := .exit 2
def k10x28 : AC := .mask 802
def k10x27 : AC := .seq (.cond (.tmp 48)
   (.skip)
   (.seq (.mask 288) k10x29)) k10x28
def k10x31 : AC := .mask 802
def k10x30 : AC := .ops false [
    ⟨(some 49), .move (.tmp 9), none, []⟩,
    ⟨(some 50), .bin .other .add (.tmp 49) (.c (.int .i64 1)), none, []⟩,
    ⟨(some 9), .move (.tmp 50), none, []⟩]
def k10x26 : AC := .seq (.seq (.block 3 (.ops false [
     ⟨(some 51), .move (.tmp 9), none, []⟩,
     ⟨(some 52), .bin .other .add (.tmp 51) (.c (.int .i64 1)), none, []⟩,
     ⟨(some 53), .move (.tmp 1), none, []⟩,
     ⟨(some 54), .move (.tmp 9), none, []⟩,
     ⟨(some 55), .indexAddr 1 (.tmp 53) (.tmp 54), none, []⟩,
     ⟨(some 56), .load (.cell (.int .i64)) (.tmp 55), none, []⟩,
     ⟨(some 57), .call 25 [(.tmp 56)] [(.cell (.int .i64))] (.int .i64 0), none, []⟩,
     ⟨(some 58), .indexArr 16 1 (.tmp 8) (.tmp 52), none, []⟩,
     ⟨none, .store 1 (.tmp 58) (.tmp 57), none, []⟩])) k10x31) k10x30
def k10x25 : AC := .seq (.seq (.ops true [
    ⟨(some 41), .move (.tmp 9), none, []⟩,
    ⟨(some 42), .move (.tmp 1), none, []⟩,
    ⟨(some 43), .lenSl (.tmp 42), none, []⟩,
    ⟨(some 44), .bin .other .lss (.tmp 41) (.tmp 43), none, []⟩,
    ⟨(some 45), .move (.tmp 44), none, []⟩,
    ⟨(some 46), .move (.tmp 9), (some (45, true)), []⟩,
    ⟨(some 47), .bin .other .lss (.tmp 46) (.c (.int .i64 15)), (some (45, true)), []⟩,
    ⟨(some 48), .pick (.tmp 45) (.tmp 47) (.c (.bool false)), none, []⟩]) k10x27) k10x26
def k10x24 : AC := .mask 288
def k10x23 : AC := .seq (.block 2 (.loop 802 288 k10x25)) k10x24
def k10x39 : AC := .ret
def k10x38 : AC := .seq (.mask 16) k10x39
def k10x37 : AC := .mask 62720
def k10x36 : AC := .seq (.cond (.tmp 83)
   (.seq (.ops false [
      ⟨(some 84), .move (.tmp 11), none, []⟩,
      ⟨(some 85), .bin .other .eql (.tmp 84) (.c (.int .i64 0)), none, []⟩,
      ⟨(some 4), .move (.tmp 85), none, []⟩]) k10x38)
   (.skip)) k10x37
def k10x42 : AC := .ret
def k10x41 : AC := .seq (.mask 16) k10x42
def k10x40 : AC := .seq (.ops true [
    ⟨(some 94), .move (.tmp 16), none, []⟩,
    ⟨(some 95), .bin .other .eql (.tmp 94) (.c (.int .i64 0)), none, []⟩,
    ⟨(some 96), .move (.tmp 95), none, []⟩,
    ⟨(some 97), .load (.raw 16) (.tmp 14), (some (96, true)), []⟩,
    ⟨(some 98), .load (.raw 16) (.tmp 17), (some (96, true)), []⟩,
    ⟨(some 99), .bin (.agg [false, false, false, false, false, false, false, false, false, false, false, false, false, false, false, false]) .eql (.tmp 97) (.tmp 98), (some (96, true)), []⟩,
    ⟨(some 100), .pick (.tmp 96) (.tmp 99) (.c (.bool false)), none, []⟩,
    ⟨(some 101), .move (.tmp 100), none, []⟩,
    ⟨(some 102), .move (.tmp 15), (some (101, true)), []⟩,
    ⟨(some 103), .move (.tmp 18), (some (101, true)), []⟩,
    ⟨(some 104), .call 27 [(.tmp 102), (.tmp 103)] [(.cell .bool)] (.bool false), (some (101, true)), []⟩,
    ⟨(some 105), .pick (.tmp 101) (.tmp 104) (.c (.bool false)), none, []⟩,
    ⟨(some 106), .move (.tmp 105), none, []⟩,
    ⟨(some 107), .move (.tmp 12), (some (106, true)), []⟩,
    ⟨(some 108), .nilCheck (.tmp 107), (some (106, true)), []⟩,
    ⟨(some 109), .fieldAddr 0 (.tmp 108), (some (106, true)), []⟩,
    ⟨(some 110), .load (.cell .sl) (.tmp 109), (some (106, true)), []⟩,
    ⟨(some 111), .move (.tmp 13), (some (106, true)), []⟩,
    ⟨(some 112), .nilCheck (.tmp 111), (some (106, true)), []⟩,
    ⟨(some 113), .fieldAddr 0 (.tmp 112), (some (106, true)), []⟩,
    ⟨(some 114), .load (.cell .sl) (.tmp 113), (some (106, true)), []⟩,
    ⟨(some 115), .call 27 [(.tmp 110), (.tmp 114)] [(.cell .bool)] (.bool false), (some (106, true)), []⟩,
    ⟨(some 116), .pick (.tmp 106) (.tmp 115) (.c (.bool false)), none, []⟩,
    ⟨(some 4), .move (.tmp 116), none, []⟩]) k10x41
def k10x35 : AC := .seq (.ops false [
    ⟨(some 87), .move (.tmp 10), none, []⟩,
    ⟨(some 88), .load (.raw 16) (.tmp 8), none, []⟩,
    ⟨(some 89), .move (.tmp 13), none, []⟩,
    ⟨(some 90), .call 26 [(.tmp 87), (.tmp 88), (.tmp 89)] [(.raw 16), (.cell .sl), (.cell (.int .i64))] .opq, none, []⟩,
    ⟨(some 86), .move (.tmp 90), none, []⟩,
    ⟨(some 91), .extract (.tmp 86) 0, none, []⟩,
    ⟨(some 92), .extract (.tmp 86) 1, none, []⟩,
    ⟨(some 93), .extract (.tmp 86) 2, none, []⟩,
    ⟨(some 17), .allocL (List.replicate 16 (.int .i64 0)), none, []⟩,
    ⟨none, .store 16 (.tmp 17) (.tmp 91), none, []⟩,
    ⟨(some 18), .move (.tmp 92), none, []⟩,
    ⟨(some 16), .move (.tmp 93), none, []⟩]) k10x40
def k10x34 : AC := .seq (.seq (.ops true [
    ⟨(some 78), .move (.tmp 11), none, []⟩,
    ⟨(some 79), .bin .other .neq (.tmp 78) (.c (.int .i64 0)), none, []⟩,
    ⟨(some 80), .move (.tmp 79), none, []⟩,
    ⟨(some 81), .move (.tmp 16), (some (80, false)), []⟩,
    ⟨(some 82), .bin .other .neq (.tmp 81) (.c (.int .i64 0)), (some (80, false)), []⟩,
    ⟨(some 83), .pick (.tmp 80) (.c (.bool true)) (.tmp 82), none, []⟩]) k10x36) k10x35
def k10x33 : AC := .seq (.ops false [
    ⟨(some 71), .move (.tmp 5), none, []⟩,
    ⟨(some 72), .load (.raw 16) (.tmp 8), none, []⟩,
    ⟨(some 73), .move (.tmp 12), none, []⟩,
    ⟨(some 74), .call 26 [(.tmp 71), (.tmp 72), (.tmp 73)] [(.raw 16), (.cell .sl), (.cell (.int .i64))] .opq, none, []⟩,
    ⟨(some 70), .move (.tmp 74), none, []⟩,
    ⟨(some 75), .extract (.tmp 70) 0, none, []⟩,
    ⟨(some 76), .extract (.tmp 70) 1, none, []⟩,
    ⟨(some 77), .extract (.tmp 70) 2, none, []⟩,
    ⟨(some 14), .allocL (List.replicate 16 (.int .i64 0)), none, []⟩,
    ⟨none, .store 16 (.tmp 14) (.tmp 75), none, []⟩,
    ⟨(some 15), .move (.tmp 76), none, []⟩,
    ⟨(some 16), .move (.tmp 77), none, []⟩]) k10x34
def k10x32 : AC := .seq (.ops false [
    ⟨(some 64), .makeSl [(.int .i64 0)] 8 (.c (.int .i64 64)) (.c (.int .i64 64)), none, []⟩,
    ⟨(some 65), .build [(.sl .nil 0), (.int .i64 0)] [(0, 1, (.tmp 64))], none, []⟩,
    ⟨(some 66), .boxH (.tmp 65), none, []⟩,
    ⟨(some 67), .makeSl [(.int .i64 0)] 8 (.c (.int .i64 64)) (.c (.int .i64 64)), none, []⟩,
    ⟨(some 68), .build [(.sl .nil 0), (.int .i64 0)] [(0, 1, (.tmp 67))], none, []⟩,
    ⟨(some 69), .boxH (.tmp 68), none, []⟩,
    ⟨(some 12), .move (.tmp 66), none, []⟩,
    ⟨(some 13), .move (.tmp 69), none, []⟩]) k10x33
def k10x22 : AC := .seq (.ops false [
    ⟨(some 60), .move (.tmp 5), none, []⟩,
    ⟨(some 61), .call 24 [(.tmp 60)] [(.cell .sl), (.cell (.int .i64))] .opq, none, []⟩,
    ⟨(some 59), .move (.tmp 61), none, []⟩,
    ⟨(some 62), .extract (.tmp 59) 0, none, []⟩,
    ⟨(some 63), .extract (.tmp 59) 1, none, []⟩,
    ⟨(some 10), .move (.tmp 62), none, []⟩,
    ⟨(some 11), .move (.tmp 63), none, []⟩]) k10x32
def k10x21 : AC := .seq (.seq (.ops false [
    ⟨(some 9), .move (.c (.int .i64 0)), none, []⟩]) k10x23) k10x22
def k10x7 : AC := .seq (.ops false [
    ⟨(some 8), .allocL (List.replicate 16 (.int .i64 0)), none, []⟩]) k10x21
def k10x6 : AC := .seq (.seq (.ops false [
    ⟨(some 21), .move (.tmp 0), none, []⟩,
    ⟨(some 22), .call 12 [(.tmp 21)] [(.cell .sl)] (.sl .nil 0), none, []⟩,
    ⟨(some 23), .lenSl (.tmp 22), none, []⟩,
    ⟨(some 24), .move (.c (.int .i64 0)), none, []⟩]) k10x8) k10x7
def k10x1 : AC := .seq (.ops false [
    ⟨(some 5), .move (.c (.sl .nil 0)), none, []⟩]) k10x6
def k10x0 : AC := .seq (.seq (.ops false [
    ⟨(some 19), .call 21 [] [(.cell .bool)] (.bool false), none, []⟩,
    ⟨(some 20), .un .not (.tmp 19), none, []⟩]) k10x2) k10x1
/-- provenance/provenancekeep4.SchedMeans -/
def c10 : AFn := ⟨117, [.tmp 4],
  .seq (.ops false [
    ⟨(some 4), .move (.c (.bool false)), none, []⟩]) k10x0⟩
def S10xe0 (s1 : SA) (n1 : Nat) (s5 : SA) (n5 : Nat) (h : Heap) : St := ⟨(.any :: (.g [] true (.sl s1 n1) :: (rep 3 (.g [] true (.sl s5 n5) :: (rep 111 []))))), h⟩
def S10xe2 (s5 : SA) (n5 : Nat) (l8 : List AV) (h : Heap) : St := ⟨(rep 5 (.g [] true (.sl s5 n5) :: (.any :: .any :: (.box l8 :: (rep 108 []))))), h⟩
noncomputable def Q10x10 (M : Mk) (C : Cal) : Kont (AV × Heap) := (blockQ 0 (seqQ (evalE M C k10x9) (seqQ (evalE M C k10x7) (endQ [.tmp 4]))))
noncomputable def L10x10 (s1 : SA) (n1 : Nat) (s5 : SA) (n5 : Nat) (s22 : SA) (n22 : Nat) (i23 : Int) (i24 : Int) (h : Heap) (Q : Kont R) : Option R := loopE (evalE M C k10x10) 29360162 34 ⟨(.any :: (.g [] true (.sl s1 n1) :: (rep 3 (.g [] true (.sl s5 n5) :: (rep 16 (.g [] true (.sl s22 n22) :: (.g [] true (.int .i64 i23) :: (.g [] true (.int .i64 i24) :: (rep 92 []))))))))), h⟩ Q
noncomputable def J10x20 (M : Mk) (C : Cal) (s1 : SA) (n1 : Nat) (s5 : SA) (n5 : Nat) (s22 : SA) (n22 : Nat) (i23 : Int) (i24 : Int) (h : Heap) (Q : Kont R) : Option R := M R (blockQ 1 (seqQ (evalE M C k10x16) (seqQ (evalE M C k10x15) (roundQ M C k10x10 29360162 34 Q)))) (.any :: (.g [] true (.sl s1 n1) :: (rep 3 (.g [] true (.sl s5 n5) :: (rep 16 (.g [] true (.sl s22 n22) :: (.g [] true (.int .i64 i23) :: (.g [] true (.int .i64 i24) :: (rep 92 []))))))))) h
noncomputable def Q10x25 (M : Mk) (C : Cal) : Kont (AV × Heap) := (blockQ 2 (seqQ (evalE M C k10x24) (seqQ (evalE M C k10x22) (endQ [.tmp 4]))))
noncomputable def L10x25 (s1 : SA) (n1 : Nat) (s5 : SA) (n5 : Nat) (l8 : List AV) (i9 : Int) (h : Heap) (Q : Kont R) : Option R := loopE (evalE M C k10x25) 802 288 ⟨(.any :: (.g [] true (.sl s1 n1) :: (rep 3 (.g [] true (.sl s5 n5) :: (.any :: .any :: (.box l8 :: (.g [] true (.int .i64 i9) :: (rep 107 [])))))))), h⟩ Q
theorem r10 (s0 : SA) (n0 : Nat) (s1 : SA) (n1 : Nat) (h : Heap) : runE M C c10 [(.sl s0 n0), (.sl s1 n1)] h = (
  (C 21 [] h).bind fun r19 =>
  gB (some r19.1) true fun b19 =>
  if (!b19) = true then
    (
    some ((.bool false), r19.2)
    )
  else
    (
    (C 12 [(.sl s0 n0)] r19.2).bind fun r22 =>
    gL (some r22.1) true fun s22 n22 =>
    L10x10 M C s1 n1 .nil 0 s22 n22 ((n22 : Nat) : Int) 0 r22.2 (Q10x10 M C)
    )
  ) := by kernel_rfl
theorem cf10 : cFn Try.prog 10 = some c10 := by kernel_rfl
theorem e10 (s0 : SA) (n0 : Nat) (s1 : SA) (n1 : Nat) (h : Heap) : E 10 [(.sl s0 n0), (.sl s1 n1)] h = (
  (E 21 [] h).bind fun r19 =>
  gB (some r19.1) true fun b19 =>
  if (!b19) = true then
    (
    some ((.bool false), r19.2)
    )
  else
    (
    (E 12 [(.sl s0 n0)] r19.2).bind fun r22 =>
    gL (some r22.1) true fun s22 n22 =>
    L10x10 mk0 E s1 n1 .nil 0 s22 n22 ((n22 : Nat) : Int) 0 r22.2 (Q10x10 mk0 E)
    )
  ) := (EV_eq (P := Try.prog) (T := T0) rfl cf10 [(.sl s0 n0), (.sl s1 n1)] h).trans (r10 mk0 E s0 n0 s1 n1 h)
theorem L10x10xaux (s1 : SA) (n1 : Nat) (s5 : SA) (n5 : Nat) (s22 : SA) (n22 : Nat) (i23 : Int) (i24 : Int) (h : Heap) (Q : Kont R) : (restrF 29360162 ⟨(.any :: (.g [] true (.sl s1 n1) :: (rep 3 (.g [] true (.sl s5 n5) :: (rep 16 (.g [] true (.sl s22 n22) :: (.g [] true (.int .i64 i23) :: (.g [] true (.int .i64 i24) :: (rep 92 []))))))))), h⟩ fun σ => evalE M C k10x10 σ (roundQ M C k10x10 29360162 34 Q)) = (
  letK ((decide ((i24 : Int) < i23)) : Bool) fun b25 =>
  if b25 = true then
    (
    chk (true = true → (0 : Int) ≤ i24 ∧ (i24 : Int) < ((n22 : Nat) : Int)) <|
    atP (adP s22) true fun a26 =>
    gCells (ldN h (Ad.add a26 (Int.toNat i24 * 5)) 5) true fun l27 =>
    gI .i64 (l27[0]?) true fun i27x0 =>
    gI .i64 (l27[1]?) true fun i27x1 =>
    gI .i64 (l27[2]?) true fun i27x2 =>
    gI .i64 (l27[3]?) true fun i27x3 =>
    gI .i64 (l27[4]?) true fun i27x4 =>
    letK ((!decide ((i27x0 : Int) = 14)) : Bool) fun b30 =>
    gI .i64 (some (.int .i64 i27x0)) b30 fun i33 =>
    letK ((!decide ((i33 : Int) = 15)) : Bool) fun b34 =>
    letK ((if b30 = true then b34 else false) : Bool) fun b35 =>
    if b35 = true then
      (
      newK h (.cells [(.int .i64 i27x0), (.int .i64 i27x1), (.int .i64 i27x2), (.int .i64 i27x3), (.int .i64 i27x4)] (.grow 5) 0) fun h_2 =>
      (ldSl h_2 (.pos ⟨List.length h, 0, 0⟩) (1 * 5)).bind fun y39 =>
      (apnd h_2 (.sl s5 n5) 5 40 y39 1).bind fun r39 =>
      gL (some r39.1) true fun s39 n39 =>
      J10x20 M C s1 n1 s39 n39 s22 n22 i23 i24 r39.2 Q
      )
    else
      (
      J10x20 M C s1 n1 s5 n5 s22 n22 i23 i24 h Q
      )
    )
  else
    (
    Q (.exit 0) (S10xe0 s1 n1 s5 n5 h)
    )
  ) := by kernel_rfl
theorem L10x10xeq (s1 : SA) (n1 : Nat) (s5 : SA) (n5 : Nat) (s22 : SA) (n22 : Nat) (i23 : Int) (i24 : Int) (h : Heap) (Q : Kont R) : L10x10 mk0 C s1 n1 s5 n5 s22 n22 i23 i24 h Q = (
  letK ((decide ((i24 : Int) < i23)) : Bool) fun b25 =>
  if b25 = true then
    (
    chk (true = true → (0 : Int) ≤ i24 ∧ (i24 : Int) < ((n22 : Nat) : Int)) <|
    atP (adP s22) true fun a26 =>
    gCells (ldN h (Ad.add a26 (Int.toNat i24 * 5)) 5) true fun l27 =>
    gI .i64 (l27[0]?) true fun i27x0 =>
    gI .i64 (l27[1]?) true fun i27x1 =>
    gI .i64 (l27[2]?) true fun i27x2 =>
    gI .i64 (l27[3]?) true fun i27x3 =>
    gI .i64 (l27[4]?) true fun i27x4 =>
    letK ((!decide ((i27x0 : Int) = 14)) : Bool) fun b30 =>
    gI .i64 (some (.int .i64 i27x0)) b30 fun i33 =>
    letK ((!decide ((i33 : Int) = 15)) : Bool) fun b34 =>
    letK ((if b30 = true then b34 else false) : Bool) fun b35 =>
    if b35 = true then
      (
      newK h (.cells [(.int .i64 i27x0), (.int .i64 i27x1), (.int .i64 i27x2), (.int .i64 i27x3), (.int .i64 i27x4)] (.grow 5) 0) fun h_2 =>
      (ldSl h_2 (.pos ⟨List.length h, 0, 0⟩) (1 * 5)).bind fun y39 =>
      (apnd h_2 (.sl s5 n5) 5 40 y39 1).bind fun r39 =>
      gL (some r39.1) true fun s39 n39 =>
      J10x20 mk0 C s1 n1 s39 n39 s22 n22 i23 i24 r39.2 Q
      )
    else
      (
      J10x20 mk0 C s1 n1 s5 n5 s22 n22 i23 i24 h Q
      )
    )
  else
    (
    Q (.exit 0) (S10xe0 s1 n1 s5 n5 h)
    )
  ) := loop_eqn C k10x10 29360162 34 (.any :: (.g [] true (.sl s1 n1) :: (rep 3 (.g [] true (.sl s5 n5) :: (rep 16 (.g [] true (.sl s22 n22) :: (.g [] true (.int .i64 i23) :: (.g [] true (.int .i64 i24) :: (rep 92 []))))))))) h Q (by kernel_rfl) (L10x10xaux mk0 C s1 n1 s5 n5 s22 n22 i23 i24 h Q)
theorem J10x20xaux (M : Mk) (C : Cal) (s1 : SA) (n1 : Nat) (s5 : SA) (n5 : Nat) (s22 : SA) (n22 : Nat) (i23 : Int) (i24 : Int) (h : Heap) (Q : Kont R) : (forceK tk (.any :: (.g [] true (.sl s1 n1) :: (rep 3 (.g [] true (.sl s5 n5) :: (rep 16 (.g [] true (.sl s22 n22) :: (.g [] true (.int .i64 i23) :: (.g [] true (.int .i64 i24) :: (rep 92 []))))))))) fun e => (blockQ 1 (seqQ (evalE M C k10x16) (seqQ (evalE M C k10x15) (roundQ M C k10x10 29360162 34 Q)))) .normal ⟨e, h⟩) = (
  letK ((IntKind.wrap .i64 (i24 + 1)) : Int) fun i40 =>
  L10x10 M C s1 n1 s5 n5 s22 n22 i23 i40 h Q
  ) := by kernel_rfl
theorem J10x20xeq (C : Cal) (s1 : SA) (n1 : Nat) (s5 : SA) (n5 : Nat) (s22 : SA) (n22 : Nat) (i23 : Int) (i24 : Int) (h : Heap) (Q : Kont R) : J10x20 mk0 C s1 n1 s5 n5 s22 n22 i23 i24 h Q = (
  letK ((IntKind.wrap .i64 (i24 + 1)) : Int) fun i40 =>
  L10x10 mk0 C s1 n1 s5 n5 s22 n22 i23 i40 h Q
  ) := join_eqn (blockQ 1 (seqQ (evalE mk0 C k10x16) (seqQ (evalE mk0 C k10x15) (roundQ mk0 C k10x10 29360162 34 Q)))) (.any :: (.g [] true (.sl s1 n1) :: (rep 3 (.g [] true (.sl s5 n5) :: (rep 16 (.g [] true (.sl s22 n22) :: (.g [] true (.int .i64 i23) :: (.g [] true (.int .i64 i24) :: (rep 92 []))))))))) h (J10x20xaux mk0 C s1 n1 s5 n5 s22 n22 i23 i24 h Q)
theorem X10x10xe0 (M : Mk) (C : Cal) (s1 : SA) (n1 : Nat) (s5 : SA) (n5 : Nat) (h : Heap) : Q10x10 M C (.exit 0) (S10xe0 s1 n1 s5 n5 h) = (
  L10x25 M C s1 n1 s5 n5 (List.replicate 16 (.int .i64 0)) 0 h (Q10x25 M C)
  ) := by kernel_rfl
theorem L10x25xaux (s1 : SA) (n1 : Nat) (s5 : SA) (n5 : Nat) (l8 : List AV) (i9 : Int) (h : Heap) (Q : Kont R) : (restrF 802 ⟨(.any :: (.g [] true (.sl s1 n1) :: (rep 3 (.g [] true (.sl s5 n5) :: (.any :: .any :: (.box l8 :: (.g [] true (.int .i64 i9) :: (rep 107 [])))))))), h⟩ fun σ => evalE M C k10x25 σ (roundQ M C k10x25 802 288 Q)) = (
  letK ((decide ((i9 : Int) < ((n1 : Nat) : Int))) : Bool) fun b44 =>
  letK ((decide ((i9 : Int) < 15)) : Bool) fun b47 =>
  letK ((if b44 = true then b47 else false) : Bool) fun b48 =>
  if b48 = true then
    (
    letK ((IntKind.wrap .i64 (i9 + 1)) : Int) fun i52 =>
    chk (true = true → (0 : Int) ≤ i9 ∧ (i9 : Int) < ((n1 : Nat) : Int)) <|
    atP (adP s1) true fun a55 =>
    gI .i64 (ld1 h (Ad.add a55 (Int.toNat i9 * 1))) true fun i56 =>
    (C 25 [(.int .i64 i56)] h).bind fun r57 =>
    gI .i64 (some r57.1) true fun i57 =>
    chk (true = true → (0 : Int) ≤ i52 ∧ (i52 : Int) < ((16 : Nat) : Int)) <|
    chk (true = true ∧ (0 + Int.toNat i52 * 1) < List.length l8) <|
    letK (List.set l8 (0 + Int.toNat i52 * 1) (.int .i64 i57)) fun lx =>
    letK ((IntKind.wrap .i64 (i9 + 1)) : Int) fun i50 =>
    L10x25 M C s1 n1 s5 n5 lx i50 r57.2 Q
    )
  else
    (
    Q (.exit 2) (S10xe2 s5 n5 l8 h)
    )
  ) := by kernel_rfl
theorem L10x25xeq (s1 : SA) (n1 : Nat) (s5 : SA) (n5 : Nat) (l8 : List AV) (i9 : Int) (h : Heap) (Q : Kont R) : L10x25 mk0 C s1 n1 s5 n5 l8 i9 h Q = (
  letK ((decide ((i9 : Int) < ((n1 : Nat) : Int))) : Bool) fun b44 =>
  letK ((decide ((i9 : Int) < 15)) : Bool) fun b47 =>
  letK ((if b44 = true then b47 else false) : Bool) fun b48 =>
  if b48 = true then
    (
    letK ((IntKind.wrap .i64 (i9 + 1)) : Int) fun i52 =>
    chk (true = true → (0 : Int) ≤ i9 ∧ (i9 : Int) < ((n1 : Nat) : Int)) <|
    atP (adP s1) true fun a55 =>
    gI .i64 (ld1 h (Ad.add a55 (Int.toNat i9 * 1))) true fun i56 =>
    (C 25 [(.int .i64 i56)] h).bind fun r57 =>
    gI .i64 (some r57.1) true fun i57 =>
    chk (true = true → (0 : Int) ≤ i52 ∧ (i52 : Int) < ((16 : Nat) : Int)) <|
    chk (true = true ∧ (0 + Int.toNat i52 * 1) < List.length l8) <|
    letK (List.set l8 (0 + Int.toNat i52 * 1) (.int .i64 i57)) fun lx =>
    letK ((IntKind.wrap .i64 (i9 + 1)) : Int) fun i50 =>
    L10x25 mk0 C s1 n1 s5 n5 lx i50 r57.2 Q
    )
  else
    (
    Q (.exit 2) (S10xe2 s5 n5 l8 h)
    )
  ) := loop_eqn C k10x25 802 288 (.any :: (.g [] true (.sl s1 n1) :: (rep 3 (.g [] true (.sl s5 n5) :: (.any :: .any :: (.box l8 :: (.g [] true (.int .i64 i9) :: (rep 107 [])))))))) h Q (by kernel_rfl) (L10x25xaux mk0 C s1 n1 s5 n5 l8 i9 h Q)
theorem X10x25xe2 (M : Mk) (C : Cal) (s5 : SA) (n5 : Nat) (l8 : List AV) (h : Heap) : Q10x25 M C (.exit 2) (S10xe2 s5 n5 l8 h) = (
  (C 24 [(.sl s5 n5)] h).bind fun r61 =>
  gT 2 r61.1 true fun u61 =>
  gL (some (List.getD u61 0 .opq)) true fun s61x0 n61x0 =>
  gI .i64 (some (List.getD u61 1 .opq)) true fun i61x1 =>
  chk ((0 : Int) ≤ 64 ∧ (64 : Int) ≤ 64 ∧ 64 * ((8 : Nat) : Int) ≤ 70368744177664) <|
  newK r61.2 (.cells (repl (Int.toNat 64) [(.int .i64 0)]) (.grow 1) 0) fun h_2 =>
  newK h_2 (.cells [(.sl (.pos ⟨List.length r61.2, 0, 0⟩) (Int.toNat 64)), (.int .i64 0)] .fix 0) fun h_3 =>
  chk ((0 : Int) ≤ 64 ∧ (64 : Int) ≤ 64 ∧ 64 * ((8 : Nat) : Int) ≤ 70368744177664) <|
  newK h_3 (.cells (repl (Int.toNat 64) [(.int .i64 0)]) (.grow 1) 0) fun h_4 =>
  newK h_4 (.cells [(.sl (.pos ⟨List.length h_3, 0, 0⟩) (Int.toNat 64)), (.int .i64 0)] .fix 0) fun h_5 =>
  chk (true = true → 0 + 16 ≤ List.length l8) <|
  (C 26 [(.sl s5 n5), (.agg ((List.drop 0 l8).take 16)), (.ptr (some ⟨List.length h_2, 0, 0⟩))] h_5).bind fun r74 =>
  gT 3 r74.1 true fun u74 =>
  gA (List.getD u74 0 .opq) true fun l74x0 =>
  chk (true = true → l74x0.length = 16) <|
  gL (some (List.getD u74 1 .opq)) true fun s74x1 n74x1 =>
  gI .i64 (some (List.getD u74 2 .opq)) true fun i74x2 =>
  chk (List.length l74x0 = 16 ∧ flatL l74x0 = true ∧ 0 + 16 ≤ 16) <|
  letK (splice 0 l74x0 (List.replicate 16 (.int .i64 0))) fun lx =>
  letK ((!decide ((i61x1 : Int) = 0)) : Bool) fun b79 =>
  letK ((!decide ((i74x2 : Int) = 0)) : Bool) fun b82 =>
  letK ((if b79 = true then true else b82) : Bool) fun b83 =>
  if b83 = true then
    (
    letK ((decide ((i61x1 : Int) = 0)) : Bool) fun b85 =>
    some ((.bool b85), r74.2)
    )
  else
    (
    chk (true = true → 0 + 16 ≤ List.length l8) <|
    (C 26 [(.sl s61x0 n61x0), (.agg ((List.drop 0 l8).take 16)), (.ptr (some ⟨List.length h_4, 0, 0⟩))] r74.2).bind fun r90 =>
    gT 3 r90.1 true fun u90 =>
    gA (List.getD u90 0 .opq) true fun l90x0 =>
    chk (true = true → l90x0.length = 16) <|
    gL (some (List.getD u90 1 .opq)) true fun s90x1 n90x1 =>
    gI .i64 (some (List.getD u90 2 .opq)) true fun i90x2 =>
    chk (List.length l90x0 = 16 ∧ flatL l90x0 = true ∧ 0 + 16 ≤ 16) <|
    letK (splice 0 l90x0 (List.replicate 16 (.int .i64 0))) fun lx_2 =>
    letK ((decide ((i90x2 : Int) = 0)) : Bool) fun b95 =>
    chk (b95 = true → 0 + 16 ≤ List.length lx) <|
    chk (b95 = true → 0 + 16 ≤ List.length lx_2) <|
    gb b95 (eqCells [false, false, false, false, false, false, false, false, false, false, false, false, false, false, false, false] ((List.drop 0 lx).take 16) ((List.drop 0 lx_2).take 16)) false fun b99 =>
    letK ((if b95 = true then b99 else false) : Bool) fun b100 =>
    (callO b100 (C 27 [(.sl s74x1 n74x1), (.sl s90x1 n90x1)] r90.2) (.bool false) r90.2).bind fun r104 =>
    gB (some r104.1) b100 fun b104 =>
    letK ((if b100 = true then b104 else false) : Bool) fun b105 =>
    atP (some ⟨List.length h_2, 0, 0⟩) b105 fun a108 =>
    atP (some a108) b105 fun a109 =>
    atP (some (Ad.add a109 0)) b105 fun a110 =>
    gL (ld1 r104.2 a110) b105 fun s110 n110 =>
    atP (some ⟨List.length h_4, 0, 0⟩) b105 fun a112 =>
    atP (some a112) b105 fun a113 =>
    atP (some (Ad.add a113 0)) b105 fun a114 =>
    gL (ld1 r104.2 a114) b105 fun s114 n114 =>
    (callO b105 (C 27 [(.sl s110 n110), (.sl s114 n114)] r104.2) (.bool false) r104.2).bind fun r115 =>
    gB (some r115.1) b105 fun b115 =>
    letK ((if b105 = true then b115 else false) : Bool) fun b116 =>
    some ((.bool b116), r115.2)
    )
  ) := by kernel_rfl
end
end Go.Proofs.Ytepkdcgokedkdaa.H
