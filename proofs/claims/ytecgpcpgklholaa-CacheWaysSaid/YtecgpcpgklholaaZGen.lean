/- Parts of the proof, printed. -/
import Derived.Test.YtecgpcpgklholaaLibD
import Derived.Test.YtecgpcpgklholaaConZa
import Derived.KernelRfl
set_option linter.unusedVariables false
set_option maxRecDepth 100000
namespace Go.Proofs.Ytecgpcpgklholaa.Z
open Go Go.Proofs.Ytecgpcpgklholaa.Abs Go.Proofs
abbrev rep (n : Nat) (l : List SV) : List SV := List.replicate n .any ++ l
noncomputable def E : Cal := EV Try.prog T0
section
variable {R : Type} (M : Mk) (C : Cal)
def k39x2 : AC := .ret
def k39x1 : AC := .seq (.mask 64) k39x2
def k39x0 : AC := .seq (.ops true [
    ⟨(some 7), .move (.tmp 0), none, []⟩,
    ⟨(some 8), .move (.tmp 1), none, []⟩,
    ⟨(some 9), .bin .other .geq (.tmp 7) (.tmp 8), none, []⟩,
    ⟨(some 10), .move (.tmp 9), none, []⟩,
    ⟨(some 11), .move (.tmp 0), (some (10, true)), []⟩,
    ⟨(some 12), .move (.tmp 2), (some (10, true)), []⟩,
    ⟨(some 13), .bin .other .leq (.tmp 11) (.tmp 12), (some (10, true)), []⟩,
    ⟨(some 14), .pick (.tmp 10) (.tmp 13) (.c (.bool false)), none, []⟩,
    ⟨(some 6), .move (.tmp 14), none, []⟩]) k39x1
/-- provenance/cache.in -/
def c39 : AFn := ⟨15, [.tmp 6],
  .seq (.ops false [
    ⟨(some 6), .move (.c (.bool false)), none, []⟩]) k39x0⟩
theorem r39 (i0 : Int) (i1 : Int) (i2 : Int) (h : Heap) : runE M C c39 [(.int .i64 i0), (.int .i64 i1), (.int .i64 i2)] h = (
  letK ((decide ((i1 : Int) ≤ i0)) : Bool) fun b9 =>
  letK ((decide ((i0 : Int) ≤ i2)) : Bool) fun b13 =>
  letK ((if b9 = true then b13 else false) : Bool) fun b14 =>
  some ((.bool b14), h)
  ) := by kernel_rfl
theorem cf39 : cFn Try.prog 39 = some c39 := by kernel_rfl
theorem e39 (i0 : Int) (i1 : Int) (i2 : Int) (h : Heap) : E 39 [(.int .i64 i0), (.int .i64 i1), (.int .i64 i2)] h = (
  letK ((decide ((i1 : Int) ≤ i0)) : Bool) fun b9 =>
  letK ((decide ((i0 : Int) ≤ i2)) : Bool) fun b13 =>
  letK ((if b9 = true then b13 else false) : Bool) fun b14 =>
  some ((.bool b14), h)
  ) := (EV_eq (P := Try.prog) (T := T0) rfl cf39 [(.int .i64 i0), (.int .i64 i1), (.int .i64 i2)] h).trans (r39 mk0 E i0 i1 i2 h)
def k24x5 : AC := .ret
def k24x4 : AC := .seq (.mask 4) k24x5
def k24x3 : AC := .mask 0
def k24x2 : AC := .seq (.cond (.tmp 24)
   (.seq (.ops false [
      ⟨(some 2), .move (.c (.int .i64 4)), none, []⟩]) k24x4)
   (.skip)) k24x3
def k24x7 : AC := .ret
def k24x6 : AC := .seq (.mask 4) k24x7
def k24x1 : AC := .seq (.ops false [
    ⟨(some 2), .move (.c (.int .i64 0)), none, []⟩]) k24x6
def k24x0 : AC := .seq (.seq (.ops true [
    ⟨(some 3), .fieldAddr 0 (.tmp 1), none, []⟩,
    ⟨(some 4), .load (.cell (.int .i64)) (.tmp 3), none, []⟩,
    ⟨(some 5), .call 39 [(.tmp 4), (.c (.int .i64 1)), (.c (.int .i64 64))] [(.cell .bool)] (.bool false), none, []⟩,
    ⟨(some 6), .un .not (.tmp 5), none, []⟩,
    ⟨(some 7), .move (.tmp 6), none, []⟩,
    ⟨(some 8), .fieldAddr 1 (.tmp 1), (some (7, false)), []⟩,
    ⟨(some 9), .load (.cell (.int .i64)) (.tmp 8), (some (7, false)), []⟩,
    ⟨(some 10), .call 39 [(.tmp 9), (.c (.int .i64 1)), (.c (.int .i64 256))] [(.cell .bool)] (.bool false), (some (7, false)), []⟩,
    ⟨(some 11), .un .not (.tmp 10), (some (7, false)), []⟩,
    ⟨(some 12), .pick (.tmp 7) (.c (.bool true)) (.tmp 11), none, []⟩,
    ⟨(some 13), .move (.tmp 12), none, []⟩,
    ⟨(some 14), .fieldAddr 2 (.tmp 1), (some (13, false)), []⟩,
    ⟨(some 15), .load (.cell (.int .i64)) (.tmp 14), (some (13, false)), []⟩,
    ⟨(some 16), .call 39 [(.tmp 15), (.c (.int .i64 1)), (.c (.int .i64 8))] [(.cell .bool)] (.bool false), (some (13, false)), []⟩,
    ⟨(some 17), .un .not (.tmp 16), (some (13, false)), []⟩,
    ⟨(some 18), .pick (.tmp 13) (.c (.bool true)) (.tmp 17), none, []⟩,
    ⟨(some 19), .move (.tmp 18), none, []⟩,
    ⟨(some 20), .fieldAddr 3 (.tmp 1), (some (19, false)), []⟩,
    ⟨(some 21), .load (.cell (.int .i64)) (.tmp 20), (some (19, false)), []⟩,
    ⟨(some 22), .call 39 [(.tmp 21), (.c (.int .i64 0)), (.c (.int .i64 1000))] [(.cell .bool)] (.bool false), (some (19, false)), []⟩,
    ⟨(some 23), .un .not (.tmp 22), (some (19, false)), []⟩,
    ⟨(some 24), .pick (.tmp 19) (.c (.bool true)) (.tmp 23), none, []⟩]) k24x2) k24x1
/-- provenance/cache.Check -/
def c24 : AFn := ⟨25, [.tmp 2],
  .seq (.ops false [
    ⟨(some 1), .boxL (.tmp 0), none, []⟩,
    ⟨(some 2), .move (.c (.int .i64 0)), none, []⟩]) k24x0⟩
theorem r24 (i0x0 : Int) (i0x1 : Int) (i0x2 : Int) (i0x3 : Int) (h : Heap) : runE M C c24 [(.agg [(.int .i64 i0x0), (.int .i64 i0x1), (.int .i64 i0x2), (.int .i64 i0x3)])] h = (
  (C 39 [(.int .i64 i0x0), (.int .i64 1), (.int .i64 64)] h).bind fun r5 =>
  gB (some r5.1) true fun b5 =>
  gI .i64 (some (.int .i64 i0x1)) (!(!b5)) fun i9 =>
  (callO (!(!b5)) (C 39 [(.int .i64 i9), (.int .i64 1), (.int .i64 256)] r5.2) (.bool false) r5.2).bind fun r10 =>
  gB (some r10.1) (!(!b5)) fun b10 =>
  letK ((if (!b5) = true then true else (!b10)) : Bool) fun b12 =>
  gI .i64 (some (.int .i64 i0x2)) (!b12) fun i15 =>
  (callO (!b12) (C 39 [(.int .i64 i15), (.int .i64 1), (.int .i64 8)] r10.2) (.bool false) r10.2).bind fun r16 =>
  gB (some r16.1) (!b12) fun b16 =>
  letK ((if b12 = true then true else (!b16)) : Bool) fun b18 =>
  gI .i64 (some (.int .i64 i0x3)) (!b18) fun i21 =>
  (callO (!b18) (C 39 [(.int .i64 i21), (.int .i64 0), (.int .i64 1000)] r16.2) (.bool false) r16.2).bind fun r22 =>
  gB (some r22.1) (!b18) fun b22 =>
  letK ((if b18 = true then true else (!b22)) : Bool) fun b24 =>
  if b24 = true then
    (
    some ((.int .i64 4), r22.2)
    )
  else
    (
    some ((.int .i64 0), r22.2)
    )
  ) := by kernel_rfl
theorem cf24 : cFn Try.prog 24 = some c24 := by kernel_rfl
theorem e24 (i0x0 : Int) (i0x1 : Int) (i0x2 : Int) (i0x3 : Int) (h : Heap) : E 24 [(.agg [(.int .i64 i0x0), (.int .i64 i0x1), (.int .i64 i0x2), (.int .i64 i0x3)])] h = (
  (E 39 [(.int .i64 i0x0), (.int .i64 1), (.int .i64 64)] h).bind fun r5 =>
  gB (some r5.1) true fun b5 =>
  gI .i64 (some (.int .i64 i0x1)) (!(!b5)) fun i9 =>
  (callO (!(!b5)) (E 39 [(.int .i64 i9), (.int .i64 1), (.int .i64 256)] r5.2) (.bool false) r5.2).bind fun r10 =>
  gB (some r10.1) (!(!b5)) fun b10 =>
  letK ((if (!b5) = true then true else (!b10)) : Bool) fun b12 =>
  gI .i64 (some (.int .i64 i0x2)) (!b12) fun i15 =>
  (callO (!b12) (E 39 [(.int .i64 i15), (.int .i64 1), (.int .i64 8)] r10.2) (.bool false) r10.2).bind fun r16 =>
  gB (some r16.1) (!b12) fun b16 =>
  letK ((if b12 = true then true else (!b16)) : Bool) fun b18 =>
  gI .i64 (some (.int .i64 i0x3)) (!b18) fun i21 =>
  (callO (!b18) (E 39 [(.int .i64 i21), (.int .i64 0), (.int .i64 1000)] r16.2) (.bool false) r16.2).bind fun r22 =>
  gB (some r22.1) (!b18) fun b22 =>
  letK ((if b18 = true then true else (!b22)) : Bool) fun b24 =>
  if b24 = true then
    (
    some ((.int .i64 4), r22.2)
    )
  else
    (
    some ((.int .i64 0), r22.2)
    )
  ) := (EV_eq (P := Try.prog) (T := T0) rfl cf24 [(.agg [(.int .i64 i0x0), (.int .i64 i0x1), (.int .i64 i0x2), (.int .i64 i0x3)])] h).trans (r24 mk0 E i0x0 i0x1 i0x2 i0x3 h)
def k27x6 : AC := .ret
def k27x5 : AC := .seq (.mask 16) k27x6
def k27x4 : AC := .mask 1
def k27x3 : AC := .seq (.cond (.tmp 9)
   (.seq (.ops false [
      ⟨(some 10), .move (.tmp 0), none, []⟩,
      ⟨(some 11), .move (.tmp 1), none, []⟩,
      ⟨(some 12), .bin .other .add (.tmp 10) (.tmp 11), none, []⟩,
      ⟨(some 4), .move (.tmp 12), none, []⟩]) k27x5)
   (.skip)) k27x4
def k27x8 : AC := .ret
def k27x7 : AC := .seq (.mask 16) k27x8
def k27x2 : AC := .seq (.ops false [
    ⟨(some 13), .move (.tmp 0), none, []⟩,
    ⟨(some 4), .move (.tmp 13), none, []⟩]) k27x7
def k27x1 : AC := .seq (.seq (.ops false [
    ⟨(some 8), .move (.tmp 0), none, []⟩,
    ⟨(some 9), .bin .other .lss (.tmp 8) (.c (.int .i64 0)), none, []⟩]) k27x3) k27x2
def k27x0 : AC := .seq (.ops false [
    ⟨(some 5), .move (.tmp 0), none, []⟩,
    ⟨(some 6), .move (.tmp 1), none, []⟩,
    ⟨(some 7), .bin .other .rem (.tmp 5) (.tmp 6), none, []⟩,
    ⟨(some 0), .move (.tmp 7), none, []⟩]) k27x1
/-- provenance/provenanceref4.modulo -/
def c27 : AFn := ⟨14, [.tmp 4],
  .seq (.ops false [
    ⟨(some 4), .move (.c (.int .i64 0)), none, []⟩]) k27x0⟩
theorem r27 (i0 : Int) (i1 : Int) (h : Heap) : runE M C c27 [(.int .i64 i0), (.int .i64 i1)] h = (
  chk (true = true → (i1 : Int) ≠ 0) <|
  letK ((Int.tmod i0 i1) : Int) fun i7 =>
  letK ((decide ((i7 : Int) < 0)) : Bool) fun b9 =>
  if b9 = true then
    (
    letK ((IntKind.wrap .i64 (i7 + i1)) : Int) fun i12 =>
    some ((.int .i64 i12), h)
    )
  else
    (
    some ((.int .i64 i7), h)
    )
  ) := by kernel_rfl
theorem cf27 : cFn Try.prog 27 = some c27 := by kernel_rfl
theorem e27 (i0 : Int) (i1 : Int) (h : Heap) : E 27 [(.int .i64 i0), (.int .i64 i1)] h = (
  chk (true = true → (i1 : Int) ≠ 0) <|
  letK ((Int.tmod i0 i1) : Int) fun i7 =>
  letK ((decide ((i7 : Int) < 0)) : Bool) fun b9 =>
  if b9 = true then
    (
    letK ((IntKind.wrap .i64 (i7 + i1)) : Int) fun i12 =>
    some ((.int .i64 i12), h)
    )
  else
    (
    some ((.int .i64 i7), h)
    )
  ) := (EV_eq (P := Try.prog) (T := T0) rfl cf27 [(.int .i64 i0), (.int .i64 i1)] h).trans (r27 mk0 E i0 i1 h)
def k11x2 : AC := .ret
def k11x1 : AC := .seq (.mask 16) k11x2
def k11x0 : AC := .seq (.ops false [
    ⟨(some 5), .move (.tmp 0), none, []⟩,
    ⟨(some 6), .move (.tmp 1), none, []⟩,
    ⟨(some 7), .call 27 [(.tmp 5), (.tmp 6)] [(.cell (.int .i64))] (.int .i64 0), none, []⟩,
    ⟨(some 4), .move (.tmp 7), none, []⟩]) k11x1
/-- provenance/provenanceref4.Rest -/
def c11 : AFn := ⟨8, [.tmp 4],
  .seq (.ops false [
    ⟨(some 4), .move (.c (.int .i64 0)), none, []⟩]) k11x0⟩
theorem r11 (i0 : Int) (i1 : Int) (h : Heap) : runE M C c11 [(.int .i64 i0), (.int .i64 i1)] h = (
  (C 27 [(.int .i64 i0), (.int .i64 i1)] h).bind fun r7 =>
  gI .i64 (some r7.1) true fun i7 =>
  some ((.int .i64 i7), r7.2)
  ) := by kernel_rfl
theorem cf11 : cFn Try.prog 11 = some c11 := by kernel_rfl
theorem e11 (i0 : Int) (i1 : Int) (h : Heap) : E 11 [(.int .i64 i0), (.int .i64 i1)] h = (
  (E 27 [(.int .i64 i0), (.int .i64 i1)] h).bind fun r7 =>
  gI .i64 (some r7.1) true fun i7 =>
  some ((.int .i64 i7), r7.2)
  ) := (EV_eq (P := Try.prog) (T := T0) rfl cf11 [(.int .i64 i0), (.int .i64 i1)] h).trans (r11 mk0 E i0 i1 h)
def k49x8 : AC := .exit 0
def k49x7 : AC := .mask 387
def k49x15 : AC := .ret
def k49x14 : AC := .seq (.mask 16) k49x15
def k49x13 : AC := .mask 387
def k49x12 : AC := .seq (.cond (.tmp 16)
   (.seq (.ops false [
      ⟨(some 17), .move (.tmp 5), none, []⟩,
      ⟨(some 4), .move (.tmp 17), none, []⟩]) k49x14)
   (.skip)) k49x13
def k49x11 : AC := .seq (.ops false [
    ⟨(some 11), .move (.tmp 1), none, []⟩,
    ⟨(some 12), .move (.tmp 0), none, []⟩,
    ⟨(some 13), .move (.tmp 5), none, []⟩,
    ⟨(some 14), .indexAddr 2 (.tmp 12) (.tmp 13), none, []⟩,
    ⟨(some 15), .load (.agg [(.int .i64), .bool]) (.tmp 14), none, []⟩,
    ⟨(some 16), .callV (.tmp 11) [(.tmp 15)] [(.cell .bool)] (.bool false), none, []⟩]) k49x12
def k49x10 : AC := .mask 387
def k49x9 : AC := .ops false [
    ⟨(some 18), .bin .other .add (.tmp 8) (.c (.int .i64 1)), none, []⟩,
    ⟨(some 8), .move (.tmp 18), none, []⟩]
def k49x6 : AC := .seq (.seq (.block 1 (.seq (.ops false [
     ⟨(some 10), .move (.tmp 8), none, []⟩,
     ⟨(some 5), .move (.tmp 10), none, []⟩]) k49x11)) k49x10) k49x9
def k49x5 : AC := .seq (.seq (.cond (.tmp 9)
   (.skip)
   (.seq (.mask 0) k49x8)) k49x7) k49x6
def k49x4 : AC := .seq (.ops false [
    ⟨(some 9), .bin .other .lss (.tmp 8) (.tmp 7), none, []⟩]) k49x5
def k49x3 : AC := .mask 0
def k49x2 : AC := .seq (.block 0 (.loop 387 0 k49x4)) k49x3
def k49x17 : AC := .ret
def k49x16 : AC := .seq (.mask 16) k49x17
def k49x1 : AC := .seq (.ops false [
    ⟨(some 4), .move (.c (.int .i64 (-1))), none, []⟩]) k49x16
def k49x0 : AC := .seq (.seq (.ops false [
    ⟨(some 6), .move (.tmp 0), none, []⟩,
    ⟨(some 7), .lenSl (.tmp 6), none, []⟩,
    ⟨(some 8), .move (.c (.int .i64 0)), none, []⟩]) k49x2) k49x1
/-- slices.IndexFunc[[]provenance/api.CacheLine,provenance/api.CacheLine] -/
def c49 : AFn := ⟨19, [.tmp 4],
  .seq (.ops false [
    ⟨(some 4), .move (.c (.int .i64 0)), none, []⟩]) k49x0⟩
def S49xr (i4 : Int) (h : Heap) : St := ⟨(rep 4 (.g [] true (.int .i64 i4) :: (rep 14 []))), h⟩
def S49xe0 (h : Heap) : St := ⟨(rep 19 []), h⟩
noncomputable def Q49x4 (M : Mk) (C : Cal) : Kont (AV × Heap) := (blockQ 0 (seqQ (evalE M C k49x3) (seqQ (evalE M C k49x1) (endQ [.tmp 4]))))
noncomputable def L49x4 (s0 : SA) (n0 : Nat) (v1 : AV) (i7 : Int) (i8 : Int) (h : Heap) (Q : Kont R) : Option R := loopE (evalE M C k49x4) 387 0 ⟨(.g [] true (.sl s0 n0) :: (.g [] true v1 :: (rep 5 (.g [] true (.int .i64 i7) :: (.g [] true (.int .i64 i8) :: (rep 10 [])))))), h⟩ Q
theorem r49 (s0 : SA) (n0 : Nat) (v1 : AV) (h : Heap) : runE M C c49 [(.sl s0 n0), v1] h = (
  L49x4 M C s0 n0 v1 ((n0 : Nat) : Int) 0 h (Q49x4 M C)
  ) := by kernel_rfl
theorem cf49 : cFn Try.prog 49 = some c49 := by kernel_rfl
theorem e49 (s0 : SA) (n0 : Nat) (v1 : AV) (h : Heap) : E 49 [(.sl s0 n0), v1] h = (
  L49x4 mk0 E s0 n0 v1 ((n0 : Nat) : Int) 0 h (Q49x4 mk0 E)
  ) := (EV_eq (P := Try.prog) (T := T0) rfl cf49 [(.sl s0 n0), v1] h).trans (r49 mk0 E s0 n0 v1 h)
theorem L49x4xaux (s0 : SA) (n0 : Nat) (v1 : AV) (i7 : Int) (i8 : Int) (h : Heap) (Q : Kont R) : (restrF 387 ⟨(.g [] true (.sl s0 n0) :: (.g [] true v1 :: (rep 5 (.g [] true (.int .i64 i7) :: (.g [] true (.int .i64 i8) :: (rep 10 [])))))), h⟩ fun σ => evalE M C k49x4 σ (roundQ M C k49x4 387 0 Q)) = (
  letK ((decide ((i8 : Int) < i7)) : Bool) fun b9 =>
  if b9 = true then
    (
    chk (true = true → (0 : Int) ≤ i8 ∧ (i8 : Int) < ((n0 : Nat) : Int)) <|
    atP (adP s0) true fun a14 =>
    gCells (ldN h (Ad.add a14 (Int.toNat i8 * 2)) 2) true fun l15 =>
    gI .i64 (l15[0]?) true fun i15x0 =>
    gB (l15[1]?) true fun b15x1 =>
    fnK v1 fun f16 a16 c16 =>
    (C f16 (a16 ++ [(.agg [(.int .i64 i15x0), (.bool b15x1)])] ++ c16) h).bind fun r16 =>
    gB (some r16.1) true fun b16 =>
    if b16 = true then
      (
      Q .ret (S49xr i8 r16.2)
      )
    else
      (
      letK ((IntKind.wrap .i64 (i8 + 1)) : Int) fun i18 =>
      L49x4 M C s0 n0 v1 i7 i18 r16.2 Q
      )
    )
  else
    (
    Q (.exit 0) (S49xe0 h)
    )
  ) := by kernel_rfl
theorem L49x4xeq (s0 : SA) (n0 : Nat) (v1 : AV) (i7 : Int) (i8 : Int) (h : Heap) (Q : Kont R) : L49x4 mk0 C s0 n0 v1 i7 i8 h Q = (
  letK ((decide ((i8 : Int) < i7)) : Bool) fun b9 =>
  if b9 = true then
    (
    chk (true = true → (0 : Int) ≤ i8 ∧ (i8 : Int) < ((n0 : Nat) : Int)) <|
    atP (adP s0) true fun a14 =>
    gCells (ldN h (Ad.add a14 (Int.toNat i8 * 2)) 2) true fun l15 =>
    gI .i64 (l15[0]?) true fun i15x0 =>
    gB (l15[1]?) true fun b15x1 =>
    fnK v1 fun f16 a16 c16 =>
    (C f16 (a16 ++ [(.agg [(.int .i64 i15x0), (.bool b15x1)])] ++ c16) h).bind fun r16 =>
    gB (some r16.1) true fun b16 =>
    if b16 = true then
      (
      Q .ret (S49xr i8 r16.2)
      )
    else
      (
      letK ((IntKind.wrap .i64 (i8 + 1)) : Int) fun i18 =>
      L49x4 mk0 C s0 n0 v1 i7 i18 r16.2 Q
      )
    )
  else
    (
    Q (.exit 0) (S49xe0 h)
    )
  ) := loop_eqn C k49x4 387 0 (.g [] true (.sl s0 n0) :: (.g [] true v1 :: (rep 5 (.g [] true (.int .i64 i7) :: (.g [] true (.int .i64 i8) :: (rep 10 [])))))) h Q (by kernel_rfl) (L49x4xaux mk0 C s0 n0 v1 i7 i8 h Q)
theorem X49x4xr (M : Mk) (C : Cal) (i4 : Int) (h : Heap) : Q49x4 M C .ret (S49xr i4 h) = (
  some ((.int .i64 i4), h)
  ) := by kernel_rfl
theorem X49x4xe0 (M : Mk) (C : Cal) (h : Heap) : Q49x4 M C (.exit 0) (S49xe0 h) = (
  some ((.int .i64 (-1)), h)
  ) := by kernel_rfl
def k50x2 : AC := .ret
def k50x1 : AC := .seq (.mask 8) k50x2
def k50x0 : AC := .seq (.ops false [
    ⟨(some 4), .fieldAddr 0 (.tmp 2), none, []⟩,
    ⟨(some 5), .load (.cell (.int .i64)) (.tmp 4), none, []⟩,
    ⟨(some 6), .load (.cell (.int .i64)) (.tmp 1), none, []⟩,
    ⟨(some 7), .bin .other .eql (.tmp 5) (.tmp 6), none, []⟩,
    ⟨(some 3), .move (.tmp 7), none, []⟩]) k50x1
/-- (*provenance/cache.level).access$1 -/
def c50 : AFn := ⟨8, [.tmp 3],
  .seq (.ops false [
    ⟨(some 2), .boxL (.tmp 0), none, []⟩,
    ⟨(some 3), .move (.c (.bool false)), none, []⟩]) k50x0⟩
theorem r50 (i0x0 : Int) (b0x1 : Bool) (p1 : Option Ad) (h : Heap) : runE M C c50 [(.agg [(.int .i64 i0x0), (.bool b0x1)]), (.ptr p1)] h = (
  atP p1 true fun a6 =>
  gI .i64 (ld1 h a6) true fun i6 =>
  letK ((decide ((i0x0 : Int) = i6)) : Bool) fun b7 =>
  some ((.bool b7), h)
  ) := by kernel_rfl
theorem cf50 : cFn Try.prog 50 = some c50 := by kernel_rfl
theorem e50 (i0x0 : Int) (b0x1 : Bool) (p1 : Option Ad) (h : Heap) : E 50 [(.agg [(.int .i64 i0x0), (.bool b0x1)]), (.ptr p1)] h = (
  atP p1 true fun a6 =>
  gI .i64 (ld1 h a6) true fun i6 =>
  letK ((decide ((i0x0 : Int) = i6)) : Bool) fun b7 =>
  some ((.bool b7), h)
  ) := (EV_eq (P := Try.prog) (T := T0) rfl cf50 [(.agg [(.int .i64 i0x0), (.bool b0x1)]), (.ptr p1)] h).trans (r50 mk0 E i0x0 b0x1 p1 h)
def k51x6 : AC := .ret
def k51x5 : AC := .seq (.mask 64) k51x6
def k51x4 : AC := .mask 7
def k51x3 : AC := .seq (.cond (.tmp 16)
   (.seq (.ops false [
      ⟨(some 17), .move (.tmp 0), none, []⟩,
      ⟨(some 6), .move (.tmp 17), none, []⟩]) k51x5)
   (.skip)) k51x4
def k51x11 : AC := .ret
def k51x10 : AC := .seq (.mask 64) k51x11
def k51x9 : AC := .seq (.ops false [
    ⟨(some 32), .move (.tmp 0), none, []⟩,
    ⟨(some 6), .move (.tmp 32), none, []⟩]) k51x10
def k51x8 : AC := .seq (.ops false [
    ⟨(some 27), .move (.tmp 0), none, []⟩,
    ⟨(some 28), .move (.tmp 0), none, []⟩,
    ⟨(some 29), .lenSl (.tmp 28), none, []⟩,
    ⟨(some 30), .move (.tmp 7), none, []⟩,
    ⟨(some 31), .slice 2 (.tmp 27) (some (.tmp 29)) (some (.tmp 30)), none, []⟩,
    ⟨none, .clear [(.int .i64 0), (.bool false)] (.tmp 31), none, []⟩]) k51x9
def k51x7 : AC := .seq (.ops false [
    ⟨(some 20), .move (.tmp 0), none, []⟩,
    ⟨(some 21), .move (.tmp 1), none, []⟩,
    ⟨(some 22), .slice 2 (.tmp 20) none (some (.tmp 21)), none, []⟩,
    ⟨(some 23), .move (.tmp 0), none, []⟩,
    ⟨(some 24), .move (.tmp 2), none, []⟩,
    ⟨(some 25), .slice 2 (.tmp 23) (some (.tmp 24)) none, none, []⟩,
    ⟨(some 26), .append [(.int .i64 0), (.bool false)] 2 16 (.tmp 22) (.tmp 25), none, []⟩,
    ⟨(some 0), .move (.tmp 26), none, []⟩]) k51x8
def k51x2 : AC := .seq (.ops false [
    ⟨(some 18), .move (.tmp 0), none, []⟩,
    ⟨(some 19), .lenSl (.tmp 18), none, []⟩,
    ⟨(some 7), .move (.tmp 19), none, []⟩]) k51x7
def k51x1 : AC := .seq (.seq (.ops false [
    ⟨(some 14), .move (.tmp 1), none, []⟩,
    ⟨(some 15), .move (.tmp 2), none, []⟩,
    ⟨(some 16), .bin .other .eql (.tmp 14) (.tmp 15), none, []⟩]) k51x3) k51x2
def k51x0 : AC := .seq (.ops false [
    ⟨(some 8), .move (.tmp 0), none, []⟩,
    ⟨(some 9), .move (.tmp 1), none, []⟩,
    ⟨(some 10), .move (.tmp 2), none, []⟩,
    ⟨(some 11), .move (.tmp 0), none, []⟩,
    ⟨(some 12), .lenSl (.tmp 11), none, []⟩,
    ⟨(some 13), .slice3 2 (.tmp 8) (.tmp 9) (.tmp 10) (.tmp 12), none, []⟩]) k51x1
/-- slices.Delete[[]provenance/api.CacheLine,provenance/api.CacheLine] -/
def c51 : AFn := ⟨33, [.tmp 6],
  .seq (.ops false [
    ⟨(some 6), .move (.c (.sl .nil 0)), none, []⟩]) k51x0⟩
theorem r51 (s0 : SA) (n0 : Nat) (i1 : Int) (i2 : Int) (h : Heap) : runE M C c51 [(.sl s0 n0), (.int .i64 i1), (.int .i64 i2)] h = (
  chkC (true = true → (0 : Int) ≤ i1 ∧ (i1 : Int) ≤ i2 ∧ (i2 : Int) ≤ ((n0 : Nat) : Int) ∧ hiOk h s0 n0 2 ((n0 : Nat) : Int)) <|
  letK ((decide ((i1 : Int) = i2)) : Bool) fun b16 =>
  if b16 = true then
    (
    some ((.sl s0 n0), h)
    )
  else
    (
    chkC (true = true → (0 : Int) ≤ i1 ∧ hiOk h s0 n0 2 i1) <|
    chkC (true = true → (0 : Int) ≤ i2 ∧ (i2 : Int) ≤ ((n0 : Nat) : Int) ∧ esOk h s0 2) <|
    letK ((n0 - Int.toNat i2) : Nat) fun n25 =>
    letK ((adS s0 (Int.toNat i2 * 2) n25) : SA) fun s25 =>
    (ldSl h s25 (n25 * 2)).bind fun y26 =>
    (apnd h (.sl s0 (Int.toNat i1)) 2 16 y26 n25).bind fun r26 =>
    gL (some r26.1) true fun s26 n26 =>
    chkC (true = true → (0 : Int) ≤ ((n26 : Nat) : Int) ∧ (((n26 : Nat) : Int) : Int) ≤ ((n0 : Nat) : Int) ∧ hiOk r26.2 s26 n26 2 ((n0 : Nat) : Int) ∧ esOk r26.2 s26 2) <|
    letK ((Int.toNat ((n0 : Nat) : Int) - Int.toNat ((n26 : Nat) : Int)) : Nat) fun n31 =>
    letK ((adS s26 (Int.toNat ((n26 : Nat) : Int) * 2) n31) : SA) fun s31 =>
    (clrM r26.2 s31 n31 [(.int .i64 0), (.bool false)]).bind fun h_2 =>
    some ((.sl s26 n26), h_2)
    )
  ) := by kernel_rfl
theorem cf51 : cFn Try.prog 51 = some c51 := by kernel_rfl
theorem e51 (s0 : SA) (n0 : Nat) (i1 : Int) (i2 : Int) (h : Heap) : E 51 [(.sl s0 n0), (.int .i64 i1), (.int .i64 i2)] h = (
  chkC (true = true → (0 : Int) ≤ i1 ∧ (i1 : Int) ≤ i2 ∧ (i2 : Int) ≤ ((n0 : Nat) : Int) ∧ hiOk h s0 n0 2 ((n0 : Nat) : Int)) <|
  letK ((decide ((i1 : Int) = i2)) : Bool) fun b16 =>
  if b16 = true then
    (
    some ((.sl s0 n0), h)
    )
  else
    (
    chkC (true = true → (0 : Int) ≤ i1 ∧ hiOk h s0 n0 2 i1) <|
    chkC (true = true → (0 : Int) ≤ i2 ∧ (i2 : Int) ≤ ((n0 : Nat) : Int) ∧ esOk h s0 2) <|
    letK ((n0 - Int.toNat i2) : Nat) fun n25 =>
    letK ((adS s0 (Int.toNat i2 * 2) n25) : SA) fun s25 =>
    (ldSl h s25 (n25 * 2)).bind fun y26 =>
    (apnd h (.sl s0 (Int.toNat i1)) 2 16 y26 n25).bind fun r26 =>
    gL (some r26.1) true fun s26 n26 =>
    chkC (true = true → (0 : Int) ≤ ((n26 : Nat) : Int) ∧ (((n26 : Nat) : Int) : Int) ≤ ((n0 : Nat) : Int) ∧ hiOk r26.2 s26 n26 2 ((n0 : Nat) : Int) ∧ esOk r26.2 s26 2) <|
    letK ((Int.toNat ((n0 : Nat) : Int) - Int.toNat ((n26 : Nat) : Int)) : Nat) fun n31 =>
    letK ((adS s26 (Int.toNat ((n26 : Nat) : Int) * 2) n31) : SA) fun s31 =>
    (clrM r26.2 s31 n31 [(.int .i64 0), (.bool false)]).bind fun h_2 =>
    some ((.sl s26 n26), h_2)
    )
  ) := (EV_eq (P := Try.prog) (T := T0) rfl cf51 [(.sl s0 n0), (.int .i64 i1), (.int .i64 i2)] h).trans (r51 mk0 E s0 n0 i1 i2 h)
def k46x8 : AC := .ops false [
    ⟨(some 48), .move (.tmp 10), none, []⟩,
    ⟨(some 49), .move (.tmp 10), none, []⟩,
    ⟨(some 50), .nilCheck (.tmp 49), none, []⟩,
    ⟨(some 51), .load (.cell .sl) (.tmp 50), none, []⟩,
    ⟨(some 52), .move (.tmp 11), none, []⟩,
    ⟨(some 53), .move (.tmp 11), none, []⟩,
    ⟨(some 54), .bin .other .add (.tmp 53) (.c (.int .i64 1)), none, []⟩,
    ⟨(some 55), .call 51 [(.tmp 51), (.tmp 52), (.tmp 54)] [(.cell .sl)] (.sl .nil 0), none, []⟩,
    ⟨(some 56), .nilCheck (.tmp 48), none, []⟩,
    ⟨none, .store 1 (.tmp 56) (.tmp 55), none, []⟩]
def k46x12 : AC := .ops false [
    ⟨(some 81), .move (.tmp 10), none, []⟩,
    ⟨(some 82), .move (.tmp 10), none, []⟩,
    ⟨(some 83), .nilCheck (.tmp 82), none, []⟩,
    ⟨(some 84), .load (.cell .sl) (.tmp 83), none, []⟩,
    ⟨(some 85), .move (.tmp 10), none, []⟩,
    ⟨(some 86), .nilCheck (.tmp 85), none, []⟩,
    ⟨(some 87), .load (.cell .sl) (.tmp 86), none, []⟩,
    ⟨(some 88), .lenSl (.tmp 87), none, []⟩,
    ⟨(some 89), .bin .other .sub (.tmp 88) (.c (.int .i64 1)), none, []⟩,
    ⟨(some 90), .slice 2 (.tmp 84) none (some (.tmp 89)), none, []⟩,
    ⟨(some 91), .nilCheck (.tmp 81), none, []⟩,
    ⟨none, .store 1 (.tmp 91) (.tmp 90), none, []⟩]
def k46x11 : AC := .seq (.ops false [
    ⟨(some 77), .fieldAddr 0 (.tmp 13), none, []⟩,
    ⟨(some 78), .load (.cell (.int .i64)) (.tmp 77), none, []⟩,
    ⟨(some 79), .fieldAddr 1 (.tmp 13), none, []⟩,
    ⟨(some 80), .load (.cell .bool) (.tmp 79), none, []⟩,
    ⟨(some 7), .move (.tmp 78), none, []⟩,
    ⟨(some 8), .move (.tmp 80), none, []⟩]) k46x12
def k46x10 : AC := .join 7556
def k46x9 : AC := .seq (.cond (.tmp 66)
   (.seq (.ops false [
      ⟨(some 67), .move (.tmp 10), none, []⟩,
      ⟨(some 68), .nilCheck (.tmp 67), none, []⟩,
      ⟨(some 69), .load (.cell .sl) (.tmp 68), none, []⟩,
      ⟨(some 70), .move (.tmp 10), none, []⟩,
      ⟨(some 71), .nilCheck (.tmp 70), none, []⟩,
      ⟨(some 72), .load (.cell .sl) (.tmp 71), none, []⟩,
      ⟨(some 73), .lenSl (.tmp 72), none, []⟩,
      ⟨(some 74), .bin .other .sub (.tmp 73) (.c (.int .i64 1)), none, []⟩,
      ⟨(some 75), .indexAddr 2 (.tmp 69) (.tmp 74), none, []⟩,
      ⟨(some 76), .load (.agg [(.int .i64), .bool]) (.tmp 75), none, []⟩,
      ⟨(some 13), .allocL [(.int .i64 0), (.bool false)], none, []⟩,
      ⟨none, .store 2 (.tmp 13) (.tmp 76), none, []⟩]) k46x11)
   (.skip)) k46x10
def k46x7 : AC := .join 7556
def k46x6 : AC := .seq (.cond (.tmp 41)
   (.seq (.ops false [
      ⟨(some 42), .move (.tmp 10), none, []⟩,
      ⟨(some 43), .nilCheck (.tmp 42), none, []⟩,
      ⟨(some 44), .load (.cell .sl) (.tmp 43), none, []⟩,
      ⟨(some 45), .move (.tmp 11), none, []⟩,
      ⟨(some 46), .indexAddr 2 (.tmp 44) (.tmp 45), none, []⟩,
      ⟨(some 47), .load (.agg [(.int .i64), .bool]) (.tmp 46), none, []⟩,
      ⟨none, .store 2 (.tmp 12) (.tmp 47), none, []⟩]) k46x8)
   (.seq (.ops false [
      ⟨(some 57), .move (.tmp 10), none, []⟩,
      ⟨(some 58), .nilCheck (.tmp 57), none, []⟩,
      ⟨(some 59), .load (.cell .sl) (.tmp 58), none, []⟩,
      ⟨(some 60), .lenSl (.tmp 59), none, []⟩,
      ⟨(some 61), .move (.tmp 0), none, []⟩,
      ⟨(some 62), .nilCheck (.tmp 61), none, []⟩,
      ⟨(some 63), .fieldAddr 0 (.tmp 62), none, []⟩,
      ⟨(some 64), .fieldAddr 2 (.tmp 63), none, []⟩,
      ⟨(some 65), .load (.cell (.int .i64)) (.tmp 64), none, []⟩,
      ⟨(some 66), .bin .other .eql (.tmp 60) (.tmp 65), none, []⟩]) k46x9)) k46x7
def k46x18 : AC := .ret
def k46x17 : AC := .seq (.mask 448) k46x18
def k46x16 : AC := .seq (.ops false [
    ⟨(some 106), .move (.tmp 11), none, []⟩,
    ⟨(some 107), .bin .other .geq (.tmp 106) (.c (.int .i64 0)), none, []⟩,
    ⟨(some 108), .move (.tmp 7), none, []⟩,
    ⟨(some 109), .move (.tmp 8), none, []⟩,
    ⟨(some 6), .move (.tmp 107), none, []⟩,
    ⟨(some 7), .move (.tmp 108), none, []⟩,
    ⟨(some 8), .move (.tmp 109), none, []⟩]) k46x17
def k46x15 : AC := .seq (.ops false [
    ⟨(some 98), .move (.tmp 10), none, []⟩,
    ⟨(some 99), .move (.tmp 10), none, []⟩,
    ⟨(some 100), .nilCheck (.tmp 99), none, []⟩,
    ⟨(some 101), .load (.cell .sl) (.tmp 100), none, []⟩,
    ⟨(some 102), .load (.agg [(.int .i64), .bool]) (.tmp 12), none, []⟩,
    ⟨(some 103), .buildSl [(.int .i64 0), (.bool false)] 2 [(0, (.tmp 102))], none, []⟩,
    ⟨(some 104), .call 52 [(.tmp 101), (.c (.int .i64 0)), (.tmp 103)] [(.cell .sl)] (.sl .nil 0), none, []⟩,
    ⟨(some 105), .nilCheck (.tmp 98), none, []⟩,
    ⟨none, .store 1 (.tmp 105) (.tmp 104), none, []⟩]) k46x16
def k46x5 : AC := .seq (.ops true [
    ⟨(some 92), .fieldAddr 1 (.tmp 12), none, []⟩,
    ⟨(some 93), .load (.cell .bool) (.tmp 92), none, []⟩,
    ⟨(some 94), .move (.tmp 93), none, []⟩,
    ⟨(some 95), .move (.tmp 2), (some (94, false)), []⟩,
    ⟨(some 96), .pick (.tmp 94) (.c (.bool true)) (.tmp 95), none, []⟩,
    ⟨(some 97), .fieldAddr 1 (.tmp 12), none, []⟩,
    ⟨none, .store 1 (.tmp 97) (.tmp 96), none, []⟩]) k46x15
def k46x4 : AC := .seq (.seq (.ops false [
    ⟨(some 40), .move (.tmp 11), none, []⟩,
    ⟨(some 41), .bin .other .geq (.tmp 40) (.c (.int .i64 0)), none, []⟩]) k46x6) k46x5
def k46x3 : AC := .seq (.ops false [
    ⟨(some 38), .load (.cell (.int .i64)) (.tmp 9), none, []⟩,
    ⟨(some 39), .build [(.int .i64 0), (.bool false)] [(0, 1, (.tmp 38))], none, []⟩,
    ⟨(some 12), .allocL [(.int .i64 0), (.bool false)], none, []⟩,
    ⟨none, .store 2 (.tmp 12) (.tmp 39), none, []⟩]) k46x4
def k46x2 : AC := .seq (.ops false [
    ⟨(some 33), .move (.tmp 10), none, []⟩,
    ⟨(some 34), .nilCheck (.tmp 33), none, []⟩,
    ⟨(some 35), .load (.cell .sl) (.tmp 34), none, []⟩,
    ⟨(some 36), .makeFn 50 [] [(.tmp 9)], none, []⟩,
    ⟨(some 37), .call 49 [(.tmp 35), (.tmp 36)] [(.cell (.int .i64))] (.int .i64 0), none, []⟩,
    ⟨(some 11), .move (.tmp 37), none, []⟩]) k46x3
def k46x1 : AC := .seq (.ops false [
    ⟨(some 21), .move (.tmp 0), none, []⟩,
    ⟨(some 22), .nilCheck (.tmp 21), none, []⟩,
    ⟨(some 23), .fieldAddr 4 (.tmp 22), none, []⟩,
    ⟨(some 24), .load (.cell .sl) (.tmp 23), none, []⟩,
    ⟨(some 25), .load (.cell (.int .i64)) (.tmp 9), none, []⟩,
    ⟨(some 26), .move (.tmp 0), none, []⟩,
    ⟨(some 27), .nilCheck (.tmp 26), none, []⟩,
    ⟨(some 28), .fieldAddr 0 (.tmp 27), none, []⟩,
    ⟨(some 29), .fieldAddr 1 (.tmp 28), none, []⟩,
    ⟨(some 30), .load (.cell (.int .i64)) (.tmp 29), none, []⟩,
    ⟨(some 31), .bin .other .rem (.tmp 25) (.tmp 30), none, []⟩,
    ⟨(some 32), .indexAddr 1 (.tmp 24) (.tmp 31), none, []⟩,
    ⟨(some 10), .move (.tmp 32), none, []⟩]) k46x2
def k46x0 : AC := .seq (.ops false [
    ⟨(some 14), .move (.tmp 1), none, []⟩,
    ⟨(some 15), .move (.tmp 0), none, []⟩,
    ⟨(some 16), .nilCheck (.tmp 15), none, []⟩,
    ⟨(some 17), .fieldAddr 0 (.tmp 16), none, []⟩,
    ⟨(some 18), .fieldAddr 0 (.tmp 17), none, []⟩,
    ⟨(some 19), .load (.cell (.int .i64)) (.tmp 18), none, []⟩,
    ⟨(some 20), .bin .other .quo (.tmp 14) (.tmp 19), none, []⟩,
    ⟨(some 9), .allocH [(.int .i64 0)], none, []⟩,
    ⟨none, .store 1 (.tmp 9) (.tmp 20), none, []⟩]) k46x1
/-- (*provenance/cache.level).access -/
def c46 : AFn := ⟨110, [.tmp 6, .tmp 7, .tmp 8],
  .seq (.ops false [
    ⟨(some 6), .move (.c (.bool false)), none, []⟩,
    ⟨(some 7), .move (.c (.int .i64 0)), none, []⟩,
    ⟨(some 8), .move (.c (.bool false)), none, []⟩]) k46x0⟩
noncomputable def J46x14 (M : Mk) (C : Cal) (b2 : Bool) (i7 : Int) (b8 : Bool) (p10 : Option Ad) (i11 : Int) (i12x0 : Int) (b12x1 : Bool) (h : Heap) : Res := M (AV × Heap) (seqQ (evalE M C k46x5) (endQ [.tmp 6, .tmp 7, .tmp 8])) (.any :: .any :: (.g [] true (.bool b2) :: (rep 4 (.g [] true (.int .i64 i7) :: (.g [] true (.bool b8) :: (.any :: (.g [] true (.ptr p10) :: (.g [] true (.int .i64 i11) :: (.box [(.int .i64 i12x0), (.bool b12x1)] :: (rep 97 [])))))))))) h
noncomputable def J46x13 (M : Mk) (C : Cal) (b2 : Bool) (i7 : Int) (b8 : Bool) (p10 : Option Ad) (i11 : Int) (i12x0 : Int) (b12x1 : Bool) (h : Heap) : Res := M (AV × Heap) (seqQ (evalE M C k46x7) (seqQ (evalE M C k46x5) (endQ [.tmp 6, .tmp 7, .tmp 8]))) (.any :: .any :: (.g [] true (.bool b2) :: (rep 4 (.g [] true (.int .i64 i7) :: (.g [] true (.bool b8) :: (.any :: (.g [] true (.ptr p10) :: (.g [] true (.int .i64 i11) :: (.box [(.int .i64 i12x0), (.bool b12x1)] :: (rep 97 [])))))))))) h
theorem r46 (p0 : Option Ad) (i1 : Int) (b2 : Bool) (h : Heap) : runE M C c46 [(.ptr p0), (.int .i64 i1), (.bool b2)] h = (
  atP p0 true fun a16 =>
  gI .i64 (ld1 h (Ad.add (Ad.add a16 0) 0)) true fun i19 =>
  chk (true = true → (i19 : Int) ≠ 0) <|
  letK ((IntKind.wrap .i64 (Int.tdiv i1 i19)) : Int) fun i20 =>
  newK h (.cells [(.int .i64 0)] .fix 0) fun h_2 =>
  (st1 h_2 ⟨List.length h, 0, 0⟩ (.int .i64 i20)).bind fun h_3 =>
  atP p0 true fun a22 =>
  gL (ld1 h_3 (Ad.add a22 4)) true fun s24 n24 =>
  gI .i64 (ld1 h_3 ⟨List.length h, 0, 0⟩) true fun i25 =>
  atP p0 true fun a27 =>
  gI .i64 (ld1 h_3 (Ad.add (Ad.add a27 0) 1)) true fun i30 =>
  chk (true = true → (i30 : Int) ≠ 0) <|
  letK ((Int.tmod i25 i30) : Int) fun i31 =>
  chk (true = true → (0 : Int) ≤ i31 ∧ (i31 : Int) < ((n24 : Nat) : Int)) <|
  atP (adP s24) true fun a32 =>
  gL (ld1 h_3 (Ad.add a32 (Int.toNat i31 * 1))) true fun s35 n35 =>
  (C 49 [(.sl s35 n35), (.fn 50 [] [(.ptr (some ⟨List.length h, 0, 0⟩))])] h_3).bind fun r37 =>
  gI .i64 (some r37.1) true fun i37 =>
  gI .i64 (ld1 r37.2 ⟨List.length h, 0, 0⟩) true fun i38 =>
  letK ((decide ((0 : Int) ≤ i37)) : Bool) fun b41 =>
  if b41 = true then
    (
    gL (ld1 r37.2 (Ad.add a32 (Int.toNat i31 * 1))) true fun s44 n44 =>
    chk (true = true → (0 : Int) ≤ i37 ∧ (i37 : Int) < ((n44 : Nat) : Int)) <|
    atP (adP s44) true fun a46 =>
    gCells (ldN r37.2 (Ad.add a46 (Int.toNat i37 * 2)) 2) true fun l47 =>
    gI .i64 (l47[0]?) true fun i47x0 =>
    gB (l47[1]?) true fun b47x1 =>
    gL (ld1 r37.2 (Ad.add a32 (Int.toNat i31 * 1))) true fun s51 n51 =>
    letK ((IntKind.wrap .i64 (i37 + 1)) : Int) fun i54 =>
    (C 51 [(.sl s51 n51), (.int .i64 i37), (.int .i64 i54)] r37.2).bind fun r55 =>
    gL (some r55.1) true fun s55 n55 =>
    (st1 r55.2 (Ad.add a32 (Int.toNat i31 * 1)) (.sl s55 n55)).bind fun h_4 =>
    J46x14 M C b2 0 false (some (Ad.add a32 (Int.toNat i31 * 1))) i37 i47x0 b47x1 h_4
    )
  else
    (
    gL (ld1 r37.2 (Ad.add a32 (Int.toNat i31 * 1))) true fun s59 n59 =>
    atP p0 true fun a62 =>
    gI .i64 (ld1 r37.2 (Ad.add (Ad.add a62 0) 2)) true fun i65 =>
    letK ((decide ((((n59 : Nat) : Int) : Int) = i65)) : Bool) fun b66 =>
    if b66 = true then
      (
      gL (ld1 r37.2 (Ad.add a32 (Int.toNat i31 * 1))) true fun s69 n69 =>
      gL (ld1 r37.2 (Ad.add a32 (Int.toNat i31 * 1))) true fun s72 n72 =>
      letK ((IntKind.wrap .i64 (((n72 : Nat) : Int) - 1)) : Int) fun i74 =>
      chk (true = true → (0 : Int) ≤ i74 ∧ (i74 : Int) < ((n69 : Nat) : Int)) <|
      atP (adP s69) true fun a75 =>
      gCells (ldN r37.2 (Ad.add a75 (Int.toNat i74 * 2)) 2) true fun l76 =>
      gI .i64 (l76[0]?) true fun i76x0 =>
      gB (l76[1]?) true fun b76x1 =>
      gL (ld1 r37.2 (Ad.add a32 (Int.toNat i31 * 1))) true fun s84 n84 =>
      gL (ld1 r37.2 (Ad.add a32 (Int.toNat i31 * 1))) true fun s87 n87 =>
      letK ((IntKind.wrap .i64 (((n87 : Nat) : Int) - 1)) : Int) fun i89 =>
      chkC (true = true → (0 : Int) ≤ i89 ∧ hiOk r37.2 s84 n84 2 i89) <|
      letK ((Int.toNat i89) : Nat) fun n90 =>
      (st1 r37.2 (Ad.add a32 (Int.toNat i31 * 1)) (.sl s84 n90)).bind fun h_4 =>
      J46x13 M C b2 i76x0 b76x1 (some (Ad.add a32 (Int.toNat i31 * 1))) i37 i38 false h_4
      )
    else
      (
      J46x13 M C b2 0 false (some (Ad.add a32 (Int.toNat i31 * 1))) i37 i38 false r37.2
      )
    )
  ) := by kernel_rfl
theorem cf46 : cFn Try.prog 46 = some c46 := by kernel_rfl
theorem e46 (p0 : Option Ad) (i1 : Int) (b2 : Bool) (h : Heap) : E 46 [(.ptr p0), (.int .i64 i1), (.bool b2)] h = (
  atP p0 true fun a16 =>
  gI .i64 (ld1 h (Ad.add (Ad.add a16 0) 0)) true fun i19 =>
  chk (true = true → (i19 : Int) ≠ 0) <|
  letK ((IntKind.wrap .i64 (Int.tdiv i1 i19)) : Int) fun i20 =>
  newK h (.cells [(.int .i64 0)] .fix 0) fun h_2 =>
  (st1 h_2 ⟨List.length h, 0, 0⟩ (.int .i64 i20)).bind fun h_3 =>
  atP p0 true fun a22 =>
  gL (ld1 h_3 (Ad.add a22 4)) true fun s24 n24 =>
  gI .i64 (ld1 h_3 ⟨List.length h, 0, 0⟩) true fun i25 =>
  atP p0 true fun a27 =>
  gI .i64 (ld1 h_3 (Ad.add (Ad.add a27 0) 1)) true fun i30 =>
  chk (true = true → (i30 : Int) ≠ 0) <|
  letK ((Int.tmod i25 i30) : Int) fun i31 =>
  chk (true = true → (0 : Int) ≤ i31 ∧ (i31 : Int) < ((n24 : Nat) : Int)) <|
  atP (adP s24) true fun a32 =>
  gL (ld1 h_3 (Ad.add a32 (Int.toNat i31 * 1))) true fun s35 n35 =>
  (E 49 [(.sl s35 n35), (.fn 50 [] [(.ptr (some ⟨List.length h, 0, 0⟩))])] h_3).bind fun r37 =>
  gI .i64 (some r37.1) true fun i37 =>
  gI .i64 (ld1 r37.2 ⟨List.length h, 0, 0⟩) true fun i38 =>
  letK ((decide ((0 : Int) ≤ i37)) : Bool) fun b41 =>
  if b41 = true then
    (
    gL (ld1 r37.2 (Ad.add a32 (Int.toNat i31 * 1))) true fun s44 n44 =>
    chk (true = true → (0 : Int) ≤ i37 ∧ (i37 : Int) < ((n44 : Nat) : Int)) <|
    atP (adP s44) true fun a46 =>
    gCells (ldN r37.2 (Ad.add a46 (Int.toNat i37 * 2)) 2) true fun l47 =>
    gI .i64 (l47[0]?) true fun i47x0 =>
    gB (l47[1]?) true fun b47x1 =>
    gL (ld1 r37.2 (Ad.add a32 (Int.toNat i31 * 1))) true fun s51 n51 =>
    letK ((IntKind.wrap .i64 (i37 + 1)) : Int) fun i54 =>
    (E 51 [(.sl s51 n51), (.int .i64 i37), (.int .i64 i54)] r37.2).bind fun r55 =>
    gL (some r55.1) true fun s55 n55 =>
    (st1 r55.2 (Ad.add a32 (Int.toNat i31 * 1)) (.sl s55 n55)).bind fun h_4 =>
    J46x14 mk0 E b2 0 false (some (Ad.add a32 (Int.toNat i31 * 1))) i37 i47x0 b47x1 h_4
    )
  else
    (
    gL (ld1 r37.2 (Ad.add a32 (Int.toNat i31 * 1))) true fun s59 n59 =>
    atP p0 true fun a62 =>
    gI .i64 (ld1 r37.2 (Ad.add (Ad.add a62 0) 2)) true fun i65 =>
    letK ((decide ((((n59 : Nat) : Int) : Int) = i65)) : Bool) fun b66 =>
    if b66 = true then
      (
      gL (ld1 r37.2 (Ad.add a32 (Int.toNat i31 * 1))) true fun s69 n69 =>
      gL (ld1 r37.2 (Ad.add a32 (Int.toNat i31 * 1))) true fun s72 n72 =>
      letK ((IntKind.wrap .i64 (((n72 : Nat) : Int) - 1)) : Int) fun i74 =>
      chk (true = true → (0 : Int) ≤ i74 ∧ (i74 : Int) < ((n69 : Nat) : Int)) <|
      atP (adP s69) true fun a75 =>
      gCells (ldN r37.2 (Ad.add a75 (Int.toNat i74 * 2)) 2) true fun l76 =>
      gI .i64 (l76[0]?) true fun i76x0 =>
      gB (l76[1]?) true fun b76x1 =>
      gL (ld1 r37.2 (Ad.add a32 (Int.toNat i31 * 1))) true fun s84 n84 =>
      gL (ld1 r37.2 (Ad.add a32 (Int.toNat i31 * 1))) true fun s87 n87 =>
      letK ((IntKind.wrap .i64 (((n87 : Nat) : Int) - 1)) : Int) fun i89 =>
      chkC (true = true → (0 : Int) ≤ i89 ∧ hiOk r37.2 s84 n84 2 i89) <|
      letK ((Int.toNat i89) : Nat) fun n90 =>
      (st1 r37.2 (Ad.add a32 (Int.toNat i31 * 1)) (.sl s84 n90)).bind fun h_4 =>
      J46x13 mk0 E b2 i76x0 b76x1 (some (Ad.add a32 (Int.toNat i31 * 1))) i37 i38 false h_4
      )
    else
      (
      J46x13 mk0 E b2 0 false (some (Ad.add a32 (Int.toNat i31 * 1))) i37 i38 false r37.2
      )
    )
  ) := (EV_eq (P := Try.prog) (T := T0) rfl cf46 [(.ptr p0), (.int .i64 i1), (.bool b2)] h).trans (r46 mk0 E p0 i1 b2 h)
theorem J46x14xaux (M : Mk) (C : Cal) (b2 : Bool) (i7 : Int) (b8 : Bool) (p10 : Option Ad) (i11 : Int) (i12x0 : Int) (b12x1 : Bool) (h : Heap) : (forceK tk (.any :: .any :: (.g [] true (.bool b2) :: (rep 4 (.g [] true (.int .i64 i7) :: (.g [] true (.bool b8) :: (.any :: (.g [] true (.ptr p10) :: (.g [] true (.int .i64 i11) :: (.box [(.int .i64 i12x0), (.bool b12x1)] :: (rep 97 [])))))))))) fun e => (seqQ (evalE M C k46x5) (endQ [.tmp 6, .tmp 7, .tmp 8])) .normal ⟨e, h⟩) = (
  letK ((if b12x1 = true then true else b2) : Bool) fun b96 =>
  atP p10 true fun a100 =>
  gL (ld1 h a100) true fun s101 n101 =>
  newK h (.cells [(.int .i64 i12x0), (.bool b96)] (.grow 2) 0) fun h_2 =>
  (C 52 [(.sl s101 n101), (.int .i64 0), (.sl (.pos ⟨List.length h, 0, 0⟩) 1)] h_2).bind fun r104 =>
  gL (some r104.1) true fun s104 n104 =>
  atP p10 true fun a105 =>
  (st1 r104.2 a105 (.sl s104 n104)).bind fun h_3 =>
  letK ((decide ((0 : Int) ≤ i11)) : Bool) fun b107 =>
  some (.tup [(.bool b107), (.int .i64 i7), (.bool b8)], h_3)
  ) := by kernel_rfl
theorem J46x14xeq (C : Cal) (b2 : Bool) (i7 : Int) (b8 : Bool) (p10 : Option Ad) (i11 : Int) (i12x0 : Int) (b12x1 : Bool) (h : Heap) : J46x14 mk0 C b2 i7 b8 p10 i11 i12x0 b12x1 h = (
  letK ((if b12x1 = true then true else b2) : Bool) fun b96 =>
  atP p10 true fun a100 =>
  gL (ld1 h a100) true fun s101 n101 =>
  newK h (.cells [(.int .i64 i12x0), (.bool b96)] (.grow 2) 0) fun h_2 =>
  (C 52 [(.sl s101 n101), (.int .i64 0), (.sl (.pos ⟨List.length h, 0, 0⟩) 1)] h_2).bind fun r104 =>
  gL (some r104.1) true fun s104 n104 =>
  atP p10 true fun a105 =>
  (st1 r104.2 a105 (.sl s104 n104)).bind fun h_3 =>
  letK ((decide ((0 : Int) ≤ i11)) : Bool) fun b107 =>
  some (.tup [(.bool b107), (.int .i64 i7), (.bool b8)], h_3)
  ) := join_eqn (seqQ (evalE mk0 C k46x5) (endQ [.tmp 6, .tmp 7, .tmp 8])) (.any :: .any :: (.g [] true (.bool b2) :: (rep 4 (.g [] true (.int .i64 i7) :: (.g [] true (.bool b8) :: (.any :: (.g [] true (.ptr p10) :: (.g [] true (.int .i64 i11) :: (.box [(.int .i64 i12x0), (.bool b12x1)] :: (rep 97 [])))))))))) h (J46x14xaux mk0 C b2 i7 b8 p10 i11 i12x0 b12x1 h)
theorem J46x13xaux (M : Mk) (C : Cal) (b2 : Bool) (i7 : Int) (b8 : Bool) (p10 : Option Ad) (i11 : Int) (i12x0 : Int) (b12x1 : Bool) (h : Heap) : (forceK tk (.any :: .any :: (.g [] true (.bool b2) :: (rep 4 (.g [] true (.int .i64 i7) :: (.g [] true (.bool b8) :: (.any :: (.g [] true (.ptr p10) :: (.g [] true (.int .i64 i11) :: (.box [(.int .i64 i12x0), (.bool b12x1)] :: (rep 97 [])))))))))) fun e => (seqQ (evalE M C k46x7) (seqQ (evalE M C k46x5) (endQ [.tmp 6, .tmp 7, .tmp 8]))) .normal ⟨e, h⟩) = (
  J46x14 M C b2 i7 b8 p10 i11 i12x0 b12x1 h
  ) := by kernel_rfl
theorem J46x13xeq (C : Cal) (b2 : Bool) (i7 : Int) (b8 : Bool) (p10 : Option Ad) (i11 : Int) (i12x0 : Int) (b12x1 : Bool) (h : Heap) : J46x13 mk0 C b2 i7 b8 p10 i11 i12x0 b12x1 h = (
  J46x14 mk0 C b2 i7 b8 p10 i11 i12x0 b12x1 h
  ) := join_eqn (seqQ (evalE mk0 C k46x7) (seqQ (evalE mk0 C k46x5) (endQ [.tmp 6, .tmp 7, .tmp 8]))) (.any :: .any :: (.g [] true (.bool b2) :: (rep 4 (.g [] true (.int .i64 i7) :: (.g [] true (.bool b8) :: (.any :: (.g [] true (.ptr p10) :: (.g [] true (.int .i64 i11) :: (.box [(.int .i64 i12x0), (.bool b12x1)] :: (rep 97 [])))))))))) h (J46x13xaux mk0 C b2 i7 b8 p10 i11 i12x0 b12x1 h)
def k45x2 : AC := .ret
def k45x1 : AC := .seq (.mask 4) k45x2
def k45x0 : AC := .seq (.ops false [
    ⟨(some 3), .load (.agg [(.int .i64), (.int .i64), (.int .i64), (.int .i64)]) (.tmp 1), none, []⟩,
    ⟨(some 4), .fieldAddr 1 (.tmp 1), none, []⟩,
    ⟨(some 5), .load (.cell (.int .i64)) (.tmp 4), none, []⟩,
    ⟨(some 6), .makeSl [(.sl .nil 0)] 24 (.tmp 5) (.tmp 5), none, []⟩,
    ⟨(some 7), .build [(.int .i64 0), (.int .i64 0), (.int .i64 0), (.int .i64 0), (.sl .nil 0)] [(0, 4, (.tmp 3)), (4, 1, (.tmp 6))], none, []⟩,
    ⟨(some 8), .boxH (.tmp 7), none, []⟩,
    ⟨(some 2), .move (.tmp 8), none, []⟩]) k45x1
/-- provenance/cache.newLevel -/
def c45 : AFn := ⟨9, [.tmp 2],
  .seq (.ops false [
    ⟨(some 1), .boxL (.tmp 0), none, []⟩,
    ⟨(some 2), .move (.c (.ptr none)), none, []⟩]) k45x0⟩
theorem r45 (i0x0 : Int) (i0x1 : Int) (i0x2 : Int) (i0x3 : Int) (h : Heap) : runE M C c45 [(.agg [(.int .i64 i0x0), (.int .i64 i0x1), (.int .i64 i0x2), (.int .i64 i0x3)])] h = (
  chk ((0 : Int) ≤ i0x1 ∧ (i0x1 : Int) ≤ i0x1 ∧ i0x1 * ((24 : Nat) : Int) ≤ 70368744177664) <|
  newK h (.cells (repl (Int.toNat i0x1) [(.sl .nil 0)]) (.grow 1) 0) fun h_2 =>
  letK ((Int.toNat i0x1) : Nat) fun n6 =>
  newK h_2 (.cells [(.int .i64 i0x0), (.int .i64 i0x1), (.int .i64 i0x2), (.int .i64 i0x3), (.sl (.pos ⟨List.length h, 0, 0⟩) n6)] .fix 0) fun h_3 =>
  some ((.ptr (some ⟨List.length h_2, 0, 0⟩)), h_3)
  ) := by kernel_rfl
theorem cf45 : cFn Try.prog 45 = some c45 := by kernel_rfl
theorem e45 (i0x0 : Int) (i0x1 : Int) (i0x2 : Int) (i0x3 : Int) (h : Heap) : E 45 [(.agg [(.int .i64 i0x0), (.int .i64 i0x1), (.int .i64 i0x2), (.int .i64 i0x3)])] h = (
  chk ((0 : Int) ≤ i0x1 ∧ (i0x1 : Int) ≤ i0x1 ∧ i0x1 * ((24 : Nat) : Int) ≤ 70368744177664) <|
  newK h (.cells (repl (Int.toNat i0x1) [(.sl .nil 0)]) (.grow 1) 0) fun h_2 =>
  letK ((Int.toNat i0x1) : Nat) fun n6 =>
  newK h_2 (.cells [(.int .i64 i0x0), (.int .i64 i0x1), (.int .i64 i0x2), (.int .i64 i0x3), (.sl (.pos ⟨List.length h, 0, 0⟩) n6)] .fix 0) fun h_3 =>
  some ((.ptr (some ⟨List.length h_2, 0, 0⟩)), h_3)
  ) := (EV_eq (P := Try.prog) (T := T0) rfl cf45 [(.agg [(.int .i64 i0x0), (.int .i64 i0x1), (.int .i64 i0x2), (.int .i64 i0x3)])] h).trans (r45 mk0 E i0x0 i0x1 i0x2 i0x3 h)
def k37x6 : AC := .ret
def k37x5 : AC := .seq (.mask 48) k37x6
def k37x4 : AC := .mask 12
def k37x3 : AC := .seq (.cond (.tmp 11)
   (.seq (.ops false [
      ⟨(some 12), .move (.tmp 6), none, []⟩,
      ⟨(some 4), .move (.c (.ptr none)), none, []⟩,
      ⟨(some 5), .move (.tmp 12), none, []⟩]) k37x5)
   (.skip)) k37x4
def k37x2 : AC := .seq (.ops false [
    ⟨(some 10), .move (.tmp 6), none, []⟩,
    ⟨(some 11), .bin .other .neq (.tmp 10) (.c (.int .i64 0)), none, []⟩]) k37x3
def k37x12 : AC := .ret
def k37x11 : AC := .seq (.mask 48) k37x12
def k37x10 : AC := .mask 12
def k37x9 : AC := .seq (.cond (.tmp 16)
   (.seq (.ops false [
      ⟨(some 17), .move (.tmp 7), none, []⟩,
      ⟨(some 4), .move (.c (.ptr none)), none, []⟩,
      ⟨(some 5), .move (.tmp 17), none, []⟩]) k37x11)
   (.skip)) k37x10
def k37x8 : AC := .seq (.ops false [
    ⟨(some 15), .move (.tmp 7), none, []⟩,
    ⟨(some 16), .bin .other .neq (.tmp 15) (.c (.int .i64 0)), none, []⟩]) k37x9
def k37x14 : AC := .ret
def k37x13 : AC := .seq (.mask 48) k37x14
def k37x7 : AC := .seq (.ops false [
    ⟨(some 18), .load (.agg [(.int .i64), (.int .i64), (.int .i64), (.int .i64)]) (.tmp 2), none, []⟩,
    ⟨(some 20), .load (.agg [(.int .i64), (.int .i64), (.int .i64), (.int .i64)]) (.tmp 3), none, []⟩,
    ⟨(some 19), .call 45 [(.tmp 18)] [(.cell .ptr)] (.ptr none), none, [.load 4 3 none]⟩,
    ⟨(some 21), .call 45 [(.tmp 20)] [(.cell .ptr)] (.ptr none), none, []⟩,
    ⟨(some 22), .build [(.ptr none), (.ptr none), (.int .i64 0)] [(0, 1, (.tmp 19)), (1, 1, (.tmp 21))], none, []⟩,
    ⟨(some 23), .boxH (.tmp 22), none, []⟩,
    ⟨(some 4), .move (.tmp 23), none, []⟩,
    ⟨(some 5), .move (.c (.int .i64 0)), none, []⟩]) k37x13
def k37x1 : AC := .seq (.seq (.ops false [
    ⟨(some 13), .load (.agg [(.int .i64), (.int .i64), (.int .i64), (.int .i64)]) (.tmp 3), none, []⟩,
    ⟨(some 14), .call 24 [(.tmp 13)] [(.cell (.int .i64))] (.int .i64 0), none, []⟩,
    ⟨(some 7), .move (.tmp 14), none, []⟩]) k37x8) k37x7
def k37x0 : AC := .seq (.seq (.ops false [
    ⟨(some 8), .load (.agg [(.int .i64), (.int .i64), (.int .i64), (.int .i64)]) (.tmp 2), none, []⟩,
    ⟨(some 9), .call 24 [(.tmp 8)] [(.cell (.int .i64))] (.int .i64 0), none, []⟩,
    ⟨(some 6), .move (.tmp 9), none, []⟩]) k37x2) k37x1
/-- provenance/cache.New -/
def c37 : AFn := ⟨24, [.tmp 4, .tmp 5],
  .seq (.ops false [
    ⟨(some 2), .boxL (.tmp 0), none, []⟩,
    ⟨(some 3), .boxL (.tmp 1), none, []⟩,
    ⟨(some 4), .move (.c (.ptr none)), none, []⟩,
    ⟨(some 5), .move (.c (.int .i64 0)), none, []⟩]) k37x0⟩
theorem r37 (i0x0 : Int) (i0x1 : Int) (i0x2 : Int) (i0x3 : Int) (i1x0 : Int) (i1x1 : Int) (i1x2 : Int) (i1x3 : Int) (h : Heap) : runE M C c37 [(.agg [(.int .i64 i0x0), (.int .i64 i0x1), (.int .i64 i0x2), (.int .i64 i0x3)]), (.agg [(.int .i64 i1x0), (.int .i64 i1x1), (.int .i64 i1x2), (.int .i64 i1x3)])] h = (
  (C 24 [(.agg [(.int .i64 i0x0), (.int .i64 i0x1), (.int .i64 i0x2), (.int .i64 i0x3)])] h).bind fun r9 =>
  gI .i64 (some r9.1) true fun i9 =>
  letK ((!decide ((i9 : Int) = 0)) : Bool) fun b11 =>
  if b11 = true then
    (
    some (.tup [(.ptr none), (.int .i64 i9)], r9.2)
    )
  else
    (
    (C 24 [(.agg [(.int .i64 i1x0), (.int .i64 i1x1), (.int .i64 i1x2), (.int .i64 i1x3)])] r9.2).bind fun r14 =>
    gI .i64 (some r14.1) true fun i14 =>
    letK ((!decide ((i14 : Int) = 0)) : Bool) fun b16 =>
    if b16 = true then
      (
      some (.tup [(.ptr none), (.int .i64 i14)], r14.2)
      )
    else
      (
      (C 45 [(.agg [(.int .i64 i0x0), (.int .i64 i0x1), (.int .i64 i0x2), (.int .i64 i0x3)])] r14.2).bind fun r19 =>
      gP (some r19.1) true fun p19 =>
      (C 45 [(.agg [(.int .i64 i1x0), (.int .i64 i1x1), (.int .i64 i1x2), (.int .i64 i1x3)])] r19.2).bind fun r21 =>
      gP (some r21.1) true fun p21 =>
      newK r21.2 (.cells [(.ptr p19), (.ptr p21), (.int .i64 0)] .fix 0) fun h_2 =>
      some (.tup [(.ptr (some ⟨List.length r21.2, 0, 0⟩)), (.int .i64 0)], h_2)
      )
    )
  ) := by kernel_rfl
theorem cf37 : cFn Try.prog 37 = some c37 := by kernel_rfl
theorem e37 (i0x0 : Int) (i0x1 : Int) (i0x2 : Int) (i0x3 : Int) (i1x0 : Int) (i1x1 : Int) (i1x2 : Int) (i1x3 : Int) (h : Heap) : E 37 [(.agg [(.int .i64 i0x0), (.int .i64 i0x1), (.int .i64 i0x2), (.int .i64 i0x3)]), (.agg [(.int .i64 i1x0), (.int .i64 i1x1), (.int .i64 i1x2), (.int .i64 i1x3)])] h = (
  (E 24 [(.agg [(.int .i64 i0x0), (.int .i64 i0x1), (.int .i64 i0x2), (.int .i64 i0x3)])] h).bind fun r9 =>
  gI .i64 (some r9.1) true fun i9 =>
  letK ((!decide ((i9 : Int) = 0)) : Bool) fun b11 =>
  if b11 = true then
    (
    some (.tup [(.ptr none), (.int .i64 i9)], r9.2)
    )
  else
    (
    (E 24 [(.agg [(.int .i64 i1x0), (.int .i64 i1x1), (.int .i64 i1x2), (.int .i64 i1x3)])] r9.2).bind fun r14 =>
    gI .i64 (some r14.1) true fun i14 =>
    letK ((!decide ((i14 : Int) = 0)) : Bool) fun b16 =>
    if b16 = true then
      (
      some (.tup [(.ptr none), (.int .i64 i14)], r14.2)
      )
    else
      (
      (E 45 [(.agg [(.int .i64 i0x0), (.int .i64 i0x1), (.int .i64 i0x2), (.int .i64 i0x3)])] r14.2).bind fun r19 =>
      gP (some r19.1) true fun p19 =>
      (E 45 [(.agg [(.int .i64 i1x0), (.int .i64 i1x1), (.int .i64 i1x2), (.int .i64 i1x3)])] r19.2).bind fun r21 =>
      gP (some r21.1) true fun p21 =>
      newK r21.2 (.cells [(.ptr p19), (.ptr p21), (.int .i64 0)] .fix 0) fun h_2 =>
      some (.tup [(.ptr (some ⟨List.length r21.2, 0, 0⟩)), (.int .i64 0)], h_2)
      )
    )
  ) := (EV_eq (P := Try.prog) (T := T0) rfl cf37 [(.agg [(.int .i64 i0x0), (.int .i64 i0x1), (.int .i64 i0x2), (.int .i64 i0x3)]), (.agg [(.int .i64 i1x0), (.int .i64 i1x1), (.int .i64 i1x2), (.int .i64 i1x3)])] h).trans (r37 mk0 E i0x0 i0x1 i0x2 i0x3 i1x0 i1x1 i1x2 i1x3 h)
def k38x5 : AC := .ret
def k38x4 : AC := .seq (.mask 192) k38x5
def k38x3 : AC := .mask 7
def k38x2 : AC := .seq (.cond (.tmp 17)
   (.seq (.ops false [
      ⟨(some 6), .move (.c (.int .i64 0)), none, []⟩,
      ⟨(some 7), .move (.c (.int .i64 4)), none, []⟩]) k38x4)
   (.skip)) k38x3
def k38x11 : AC := .ret
def k38x10 : AC := .seq (.mask 192) k38x11
def k38x9 : AC := .mask 1539
def k38x8 : AC := .seq (.cond (.tmp 29)
   (.seq (.ops false [
      ⟨(some 6), .move (.c (.int .i64 0)), none, []⟩,
      ⟨(some 7), .move (.c (.int .i64 0)), none, []⟩]) k38x10)
   (.skip)) k38x9
def k38x16 : AC := .join 2051
def k38x15 : AC := .seq (.cond (.tmp 45)
   (.ops false [
      ⟨(some 46), .move (.tmp 0), none, []⟩,
      ⟨(some 47), .nilCheck (.tmp 46), none, []⟩,
      ⟨(some 48), .fieldAddr 1 (.tmp 47), none, []⟩,
      ⟨(some 49), .load (.cell .ptr) (.tmp 48), none, []⟩,
      ⟨(some 50), .move (.tmp 9), none, []⟩,
      ⟨(some 51), .move (.tmp 0), none, []⟩,
      ⟨(some 52), .nilCheck (.tmp 51), none, []⟩,
      ⟨(some 53), .fieldAddr 0 (.tmp 52), none, []⟩,
      ⟨(some 54), .load (.cell .ptr) (.tmp 53), none, []⟩,
      ⟨(some 55), .nilCheck (.tmp 54), none, []⟩,
      ⟨(some 56), .fieldAddr 0 (.tmp 55), none, []⟩,
      ⟨(some 57), .fieldAddr 0 (.tmp 56), none, []⟩,
      ⟨(some 58), .load (.cell (.int .i64)) (.tmp 57), none, []⟩,
      ⟨(some 59), .bin .other .mul (.tmp 50) (.tmp 58), none, []⟩,
      ⟨(some 60), .call 46 [(.tmp 49), (.tmp 59), (.c (.bool true))] [(.cell .bool), (.cell (.int .i64)), (.cell .bool)] .opq, none, []⟩])
   (.skip)) k38x16
def k38x21 : AC := .join 2048
def k38x20 : AC := .seq (.cond (.tmp 72)
   (.ops false [
      ⟨(some 73), .move (.tmp 11), none, []⟩,
      ⟨(some 74), .move (.tmp 0), none, []⟩,
      ⟨(some 75), .nilCheck (.tmp 74), none, []⟩,
      ⟨(some 76), .fieldAddr 1 (.tmp 75), none, []⟩,
      ⟨(some 77), .load (.cell .ptr) (.tmp 76), none, []⟩,
      ⟨(some 78), .nilCheck (.tmp 77), none, []⟩,
      ⟨(some 79), .fieldAddr 0 (.tmp 78), none, []⟩,
      ⟨(some 80), .fieldAddr 3 (.tmp 79), none, []⟩,
      ⟨(some 81), .load (.cell (.int .i64)) (.tmp 80), none, []⟩,
      ⟨(some 82), .bin .other .add (.tmp 73) (.tmp 81), none, []⟩,
      ⟨(some 11), .move (.tmp 82), none, []⟩])
   (.skip)) k38x21
def k38x19 : AC := .seq (.ops false [
    ⟨(some 71), .move (.tmp 12), none, []⟩,
    ⟨(some 72), .un .not (.tmp 71), none, []⟩]) k38x20
def k38x24 : AC := .ret
def k38x23 : AC := .seq (.mask 192) k38x24
def k38x18 : AC := .seq (.ops false [
    ⟨(some 83), .move (.tmp 11), none, []⟩,
    ⟨(some 6), .move (.tmp 83), none, []⟩,
    ⟨(some 7), .move (.c (.int .i64 0)), none, []⟩]) k38x23
def k38x14 : AC := .seq (.seq (.ops false [
    ⟨(some 62), .move (.tmp 0), none, []⟩,
    ⟨(some 63), .nilCheck (.tmp 62), none, []⟩,
    ⟨(some 64), .fieldAddr 1 (.tmp 63), none, []⟩,
    ⟨(some 65), .load (.cell .ptr) (.tmp 64), none, []⟩,
    ⟨(some 66), .move (.tmp 1), none, []⟩,
    ⟨(some 67), .call 46 [(.tmp 65), (.tmp 66), (.c (.bool false))] [(.cell .bool), (.cell (.int .i64)), (.cell .bool)] .opq, none, []⟩,
    ⟨(some 61), .move (.tmp 67), none, []⟩,
    ⟨(some 68), .extract (.tmp 61) 0, none, []⟩,
    ⟨(some 69), .extract (.tmp 61) 1, none, []⟩,
    ⟨(some 70), .extract (.tmp 61) 2, none, []⟩,
    ⟨(some 12), .move (.tmp 68), none, []⟩,
    ⟨(some 13), .move (.tmp 69), none, []⟩,
    ⟨(some 14), .move (.tmp 70), none, []⟩]) k38x19) k38x18
def k38x13 : AC := .seq (.seq (.ops false [
    ⟨(some 45), .move (.tmp 10), none, []⟩]) k38x15) k38x14
def k38x12 : AC := .seq (.ops false [
    ⟨(some 37), .move (.tmp 0), none, []⟩,
    ⟨(some 38), .nilCheck (.tmp 37), none, []⟩,
    ⟨(some 39), .fieldAddr 0 (.tmp 38), none, []⟩,
    ⟨(some 40), .load (.cell .ptr) (.tmp 39), none, []⟩,
    ⟨(some 41), .nilCheck (.tmp 40), none, []⟩,
    ⟨(some 42), .fieldAddr 0 (.tmp 41), none, []⟩,
    ⟨(some 43), .fieldAddr 3 (.tmp 42), none, []⟩,
    ⟨(some 44), .load (.cell (.int .i64)) (.tmp 43), none, []⟩,
    ⟨(some 11), .move (.tmp 44), none, []⟩]) k38x13
def k38x7 : AC := .seq (.ops false [
    ⟨(some 30), .move (.tmp 0), none, []⟩,
    ⟨(some 31), .nilCheck (.tmp 30), none, []⟩,
    ⟨(some 32), .fieldAddr 2 (.tmp 31), none, []⟩,
    ⟨(some 33), .load (.cell (.int .i64)) (.tmp 32), none, []⟩,
    ⟨(some 34), .bin .other .add (.tmp 33) (.c (.int .i64 1)), none, []⟩,
    ⟨(some 35), .nilCheck (.tmp 30), none, []⟩,
    ⟨(some 36), .fieldAddr 2 (.tmp 35), none, []⟩,
    ⟨none, .store 1 (.tmp 36) (.tmp 34), none, []⟩]) k38x12
def k38x6 : AC := .seq (.seq (.ops false [
    ⟨(some 29), .move (.tmp 8), none, []⟩]) k38x8) k38x7
def k38x1 : AC := .seq (.ops false [
    ⟨(some 19), .move (.tmp 0), none, []⟩,
    ⟨(some 20), .nilCheck (.tmp 19), none, []⟩,
    ⟨(some 21), .fieldAddr 0 (.tmp 20), none, []⟩,
    ⟨(some 22), .load (.cell .ptr) (.tmp 21), none, []⟩,
    ⟨(some 23), .move (.tmp 1), none, []⟩,
    ⟨(some 24), .move (.tmp 2), none, []⟩,
    ⟨(some 25), .call 46 [(.tmp 22), (.tmp 23), (.tmp 24)] [(.cell .bool), (.cell (.int .i64)), (.cell .bool)] .opq, none, []⟩,
    ⟨(some 18), .move (.tmp 25), none, []⟩,
    ⟨(some 26), .extract (.tmp 18) 0, none, []⟩,
    ⟨(some 27), .extract (.tmp 18) 1, none, []⟩,
    ⟨(some 28), .extract (.tmp 18) 2, none, []⟩,
    ⟨(some 8), .move (.tmp 26), none, []⟩,
    ⟨(some 9), .move (.tmp 27), none, []⟩,
    ⟨(some 10), .move (.tmp 28), none, []⟩]) k38x6
def k38x0 : AC := .seq (.seq (.ops false [
    ⟨(some 15), .move (.tmp 1), none, []⟩,
    ⟨(some 16), .call 39 [(.tmp 15), (.c (.int .i64 0)), (.c (.int .i64 65535))] [(.cell .bool)] (.bool false), none, []⟩,
    ⟨(some 17), .un .not (.tmp 16), none, []⟩]) k38x2) k38x1
/-- (*provenance/cache.Cache).Access -/
def c38 : AFn := ⟨84, [.tmp 6, .tmp 7],
  .seq (.ops false [
    ⟨(some 6), .move (.c (.int .i64 0)), none, []⟩,
    ⟨(some 7), .move (.c (.int .i64 0)), none, []⟩]) k38x0⟩
noncomputable def J38x17 (M : Mk) (C : Cal) (p0 : Option Ad) (i1 : Int) (i11 : Int) (h : Heap) : Res := M (AV × Heap) (seqQ (evalE M C k38x14) (endQ [.tmp 6, .tmp 7])) (.g [] true (.ptr p0) :: (.g [] true (.int .i64 i1) :: (rep 9 (.g [] true (.int .i64 i11) :: (rep 72 []))))) h
noncomputable def J38x22 (M : Mk) (C : Cal) (i11 : Int) (h : Heap) : Res := M (AV × Heap) (seqQ (evalE M C k38x18) (endQ [.tmp 6, .tmp 7])) (rep 11 (.g [] true (.int .i64 i11) :: (rep 72 []))) h
theorem r38 (p0 : Option Ad) (i1 : Int) (b2 : Bool) (h : Heap) : runE M C c38 [(.ptr p0), (.int .i64 i1), (.bool b2)] h = (
  (C 39 [(.int .i64 i1), (.int .i64 0), (.int .i64 65535)] h).bind fun r16 =>
  gB (some r16.1) true fun b16 =>
  if (!b16) = true then
    (
    some (.tup [(.int .i64 0), (.int .i64 4)], r16.2)
    )
  else
    (
    atP p0 true fun a20 =>
    gP (ld1 r16.2 (Ad.add a20 0)) true fun p22 =>
    (C 46 [(.ptr p22), (.int .i64 i1), (.bool b2)] r16.2).bind fun r25 =>
    gT 3 r25.1 true fun u25 =>
    gB (some (List.getD u25 0 .opq)) true fun b25x0 =>
    gI .i64 (some (List.getD u25 1 .opq)) true fun i25x1 =>
    gB (some (List.getD u25 2 .opq)) true fun b25x2 =>
    if b25x0 = true then
      (
      some (.tup [(.int .i64 0), (.int .i64 0)], r25.2)
      )
    else
      (
      atP p0 true fun a31 =>
      gI .i64 (ld1 r25.2 (Ad.add a31 2)) true fun i33 =>
      letK ((IntKind.wrap .i64 (i33 + 1)) : Int) fun i34 =>
      atP p0 true fun a35 =>
      (st1 r25.2 (Ad.add a35 2) (.int .i64 i34)).bind fun h_2 =>
      atP p0 true fun a38 =>
      gP (ld1 h_2 (Ad.add a38 0)) true fun p40 =>
      atP p40 true fun a41 =>
      gI .i64 (ld1 h_2 (Ad.add (Ad.add a41 0) 3)) true fun i44 =>
      if b25x2 = true then
        (
        atP p0 true fun a47 =>
        gP (ld1 h_2 (Ad.add a47 1)) true fun p49 =>
        atP p0 true fun a52 =>
        gP (ld1 h_2 (Ad.add a52 0)) true fun p54 =>
        atP p54 true fun a55 =>
        gI .i64 (ld1 h_2 (Ad.add (Ad.add a55 0) 0)) true fun i58 =>
        letK ((IntKind.wrap .i64 (i25x1 * i58)) : Int) fun i59 =>
        (C 46 [(.ptr p49), (.int .i64 i59), (.bool true)] h_2).bind fun r60 =>
        gT 3 r60.1 true fun u60 =>
        gB (some (List.getD u60 0 .opq)) true fun b60x0 =>
        gI .i64 (some (List.getD u60 1 .opq)) true fun i60x1 =>
        gB (some (List.getD u60 2 .opq)) true fun b60x2 =>
        J38x17 M C p0 i1 i44 r60.2
        )
      else
        (
        J38x17 M C p0 i1 i44 h_2
        )
      )
    )
  ) := by kernel_rfl
theorem cf38 : cFn Try.prog 38 = some c38 := by kernel_rfl
theorem e38 (p0 : Option Ad) (i1 : Int) (b2 : Bool) (h : Heap) : E 38 [(.ptr p0), (.int .i64 i1), (.bool b2)] h = (
  (E 39 [(.int .i64 i1), (.int .i64 0), (.int .i64 65535)] h).bind fun r16 =>
  gB (some r16.1) true fun b16 =>
  if (!b16) = true then
    (
    some (.tup [(.int .i64 0), (.int .i64 4)], r16.2)
    )
  else
    (
    atP p0 true fun a20 =>
    gP (ld1 r16.2 (Ad.add a20 0)) true fun p22 =>
    (E 46 [(.ptr p22), (.int .i64 i1), (.bool b2)] r16.2).bind fun r25 =>
    gT 3 r25.1 true fun u25 =>
    gB (some (List.getD u25 0 .opq)) true fun b25x0 =>
    gI .i64 (some (List.getD u25 1 .opq)) true fun i25x1 =>
    gB (some (List.getD u25 2 .opq)) true fun b25x2 =>
    if b25x0 = true then
      (
      some (.tup [(.int .i64 0), (.int .i64 0)], r25.2)
      )
    else
      (
      atP p0 true fun a31 =>
      gI .i64 (ld1 r25.2 (Ad.add a31 2)) true fun i33 =>
      letK ((IntKind.wrap .i64 (i33 + 1)) : Int) fun i34 =>
      atP p0 true fun a35 =>
      (st1 r25.2 (Ad.add a35 2) (.int .i64 i34)).bind fun h_2 =>
      atP p0 true fun a38 =>
      gP (ld1 h_2 (Ad.add a38 0)) true fun p40 =>
      atP p40 true fun a41 =>
      gI .i64 (ld1 h_2 (Ad.add (Ad.add a41 0) 3)) true fun i44 =>
      if b25x2 = true then
        (
        atP p0 true fun a47 =>
        gP (ld1 h_2 (Ad.add a47 1)) true fun p49 =>
        atP p0 true fun a52 =>
        gP (ld1 h_2 (Ad.add a52 0)) true fun p54 =>
        atP p54 true fun a55 =>
        gI .i64 (ld1 h_2 (Ad.add (Ad.add a55 0) 0)) true fun i58 =>
        letK ((IntKind.wrap .i64 (i25x1 * i58)) : Int) fun i59 =>
        (E 46 [(.ptr p49), (.int .i64 i59), (.bool true)] h_2).bind fun r60 =>
        gT 3 r60.1 true fun u60 =>
        gB (some (List.getD u60 0 .opq)) true fun b60x0 =>
        gI .i64 (some (List.getD u60 1 .opq)) true fun i60x1 =>
        gB (some (List.getD u60 2 .opq)) true fun b60x2 =>
        J38x17 mk0 E p0 i1 i44 r60.2
        )
      else
        (
        J38x17 mk0 E p0 i1 i44 h_2
        )
      )
    )
  ) := (EV_eq (P := Try.prog) (T := T0) rfl cf38 [(.ptr p0), (.int .i64 i1), (.bool b2)] h).trans (r38 mk0 E p0 i1 b2 h)
theorem J38x17xaux (M : Mk) (C : Cal) (p0 : Option Ad) (i1 : Int) (i11 : Int) (h : Heap) : (forceK tk (.g [] true (.ptr p0) :: (.g [] true (.int .i64 i1) :: (rep 9 (.g [] true (.int .i64 i11) :: (rep 72 []))))) fun e => (seqQ (evalE M C k38x14) (endQ [.tmp 6, .tmp 7])) .normal ⟨e, h⟩) = (
  atP p0 true fun a63 =>
  gP (ld1 h (Ad.add a63 1)) true fun p65 =>
  (C 46 [(.ptr p65), (.int .i64 i1), (.bool false)] h).bind fun r67 =>
  gT 3 r67.1 true fun u67 =>
  gB (some (List.getD u67 0 .opq)) true fun b67x0 =>
  gI .i64 (some (List.getD u67 1 .opq)) true fun i67x1 =>
  gB (some (List.getD u67 2 .opq)) true fun b67x2 =>
  if (!b67x0) = true then
    (
    atP p0 true fun a75 =>
    gP (ld1 r67.2 (Ad.add a75 1)) true fun p77 =>
    atP p77 true fun a78 =>
    gI .i64 (ld1 r67.2 (Ad.add (Ad.add a78 0) 3)) true fun i81 =>
    letK ((IntKind.wrap .i64 (i11 + i81)) : Int) fun i82 =>
    J38x22 M C i82 r67.2
    )
  else
    (
    J38x22 M C i11 r67.2
    )
  ) := by kernel_rfl
theorem J38x17xeq (C : Cal) (p0 : Option Ad) (i1 : Int) (i11 : Int) (h : Heap) : J38x17 mk0 C p0 i1 i11 h = (
  atP p0 true fun a63 =>
  gP (ld1 h (Ad.add a63 1)) true fun p65 =>
  (C 46 [(.ptr p65), (.int .i64 i1), (.bool false)] h).bind fun r67 =>
  gT 3 r67.1 true fun u67 =>
  gB (some (List.getD u67 0 .opq)) true fun b67x0 =>
  gI .i64 (some (List.getD u67 1 .opq)) true fun i67x1 =>
  gB (some (List.getD u67 2 .opq)) true fun b67x2 =>
  if (!b67x0) = true then
    (
    atP p0 true fun a75 =>
    gP (ld1 r67.2 (Ad.add a75 1)) true fun p77 =>
    atP p77 true fun a78 =>
    gI .i64 (ld1 r67.2 (Ad.add (Ad.add a78 0) 3)) true fun i81 =>
    letK ((IntKind.wrap .i64 (i11 + i81)) : Int) fun i82 =>
    J38x22 mk0 C i82 r67.2
    )
  else
    (
    J38x22 mk0 C i11 r67.2
    )
  ) := join_eqn (seqQ (evalE mk0 C k38x14) (endQ [.tmp 6, .tmp 7])) (.g [] true (.ptr p0) :: (.g [] true (.int .i64 i1) :: (rep 9 (.g [] true (.int .i64 i11) :: (rep 72 []))))) h (J38x17xaux mk0 C p0 i1 i11 h)
theorem J38x22xaux (M : Mk) (C : Cal) (i11 : Int) (h : Heap) : (forceK tk (rep 11 (.g [] true (.int .i64 i11) :: (rep 72 []))) fun e => (seqQ (evalE M C k38x18) (endQ [.tmp 6, .tmp 7])) .normal ⟨e, h⟩) = (
  some (.tup [(.int .i64 i11), (.int .i64 0)], h)
  ) := by kernel_rfl
theorem J38x22xeq (C : Cal) (i11 : Int) (h : Heap) : J38x22 mk0 C i11 h = (
  some (.tup [(.int .i64 i11), (.int .i64 0)], h)
  ) := join_eqn (seqQ (evalE mk0 C k38x18) (endQ [.tmp 6, .tmp 7])) (rep 11 (.g [] true (.int .i64 i11) :: (rep 72 []))) h (J38x22xaux mk0 C i11 h)
def k40x2 : AC := .ret
def k40x1 : AC := .seq (.mask 4) k40x2
def k40x0 : AC := .seq (.ops false [
    ⟨(some 3), .move (.tmp 0), none, []⟩,
    ⟨(some 4), .nilCheck (.tmp 3), none, []⟩,
    ⟨(some 5), .fieldAddr 2 (.tmp 4), none, []⟩,
    ⟨(some 6), .load (.cell (.int .i64)) (.tmp 5), none, []⟩,
    ⟨(some 2), .move (.tmp 6), none, []⟩]) k40x1
/-- (*provenance/cache.Cache).Misses -/
def c40 : AFn := ⟨7, [.tmp 2],
  .seq (.ops false [
    ⟨(some 2), .move (.c (.int .i64 0)), none, []⟩]) k40x0⟩
theorem r40 (p0 : Option Ad) (h : Heap) : runE M C c40 [(.ptr p0)] h = (
  atP p0 true fun a4 =>
  gI .i64 (ld1 h (Ad.add a4 2)) true fun i6 =>
  some ((.int .i64 i6), h)
  ) := by kernel_rfl
theorem cf40 : cFn Try.prog 40 = some c40 := by kernel_rfl
theorem e40 (p0 : Option Ad) (h : Heap) : E 40 [(.ptr p0)] h = (
  atP p0 true fun a4 =>
  gI .i64 (ld1 h (Ad.add a4 2)) true fun i6 =>
  some ((.int .i64 i6), h)
  ) := (EV_eq (P := Try.prog) (T := T0) rfl cf40 [(.ptr p0)] h).trans (r40 mk0 E p0 h)
def k23x6 : AC := .ret
def k23x5 : AC := .seq (.mask 1) k23x6
def k23x4 : AC := .mask 2
def k23x3 : AC := .seq (.cond (.tmp 15)
   (.seq (.ops false [
      ⟨(some 0), .move (.c (.bool false)), none, []⟩]) k23x5)
   (.skip)) k23x4
def k23x9 : AC := .ret
def k23x8 : AC := .seq (.mask 1) k23x9
def k23x7 : AC := .seq (.ops true [
    ⟨(some 21), .move (.tmp 2), none, []⟩,
    ⟨(some 22), .bin .other .eql (.tmp 21) (.c (.int .i64 0)), none, []⟩,
    ⟨(some 23), .move (.tmp 22), none, []⟩,
    ⟨(some 24), .move (.tmp 3), (some (23, true)), []⟩,
    ⟨(some 25), .bin .other .eql (.tmp 24) (.c (.int .i64 7)), (some (23, true)), []⟩,
    ⟨(some 26), .pick (.tmp 23) (.tmp 25) (.c (.bool false)), none, []⟩,
    ⟨(some 0), .move (.tmp 26), none, []⟩]) k23x8
def k23x2 : AC := .seq (.ops false [
    ⟨(some 17), .move (.tmp 1), none, []⟩,
    ⟨(some 18), .call 38 [(.tmp 17), (.c (.int .i64 5)), (.c (.bool false))] [(.cell (.int .i64)), (.cell (.int .i64))] .opq, none, []⟩,
    ⟨(some 16), .move (.tmp 18), none, []⟩,
    ⟨(some 19), .extract (.tmp 16) 0, none, []⟩,
    ⟨(some 20), .extract (.tmp 16) 1, none, []⟩,
    ⟨(some 3), .move (.tmp 19), none, []⟩,
    ⟨(some 2), .move (.tmp 20), none, []⟩]) k23x7
def k23x1 : AC := .seq (.seq (.ops true [
    ⟨(some 10), .move (.tmp 2), none, []⟩,
    ⟨(some 11), .bin .other .neq (.tmp 10) (.c (.int .i64 0)), none, []⟩,
    ⟨(some 12), .move (.tmp 11), none, []⟩,
    ⟨(some 13), .move (.tmp 1), (some (12, false)), []⟩,
    ⟨(some 14), .bin .ptr .eql (.tmp 13) (.c (.ptr none)), (some (12, false)), []⟩,
    ⟨(some 15), .pick (.tmp 12) (.c (.bool true)) (.tmp 14), none, []⟩]) k23x3) k23x2
def k23x0 : AC := .seq (.ops false [
    ⟨(some 5), .build [(.int .i64 0), (.int .i64 0), (.int .i64 0), (.int .i64 0)] [(0, 1, (.c (.int .i64 1))), (1, 1, (.c (.int .i64 1))), (2, 1, (.c (.int .i64 1))), (3, 1, (.c (.int .i64 3)))], none, []⟩,
    ⟨(some 6), .build [(.int .i64 0), (.int .i64 0), (.int .i64 0), (.int .i64 0)] [(0, 1, (.c (.int .i64 1))), (1, 1, (.c (.int .i64 1))), (2, 1, (.c (.int .i64 1))), (3, 1, (.c (.int .i64 4)))], none, []⟩,
    ⟨(some 7), .call 37 [(.tmp 5), (.tmp 6)] [(.cell .ptr), (.cell (.int .i64))] .opq, none, []⟩,
    ⟨(some 4), .move (.tmp 7), none, []⟩,
    ⟨(some 8), .extract (.tmp 4) 0, none, []⟩,
    ⟨(some 9), .extract (.tmp 4) 1, none, []⟩,
    ⟨(some 1), .move (.tmp 8), none, []⟩,
    ⟨(some 2), .move (.tmp 9), none, []⟩]) k23x1
/-- provenance/provenancekeep4.cacheFact -/
def c23 : AFn := ⟨27, [.tmp 0],
  .seq (.ops false [
    ⟨(some 0), .move (.c (.bool false)), none, []⟩]) k23x0⟩
theorem r23 (h : Heap) : runE M C c23 [] h = (
  (C 37 [(.agg [(.int .i64 1), (.int .i64 1), (.int .i64 1), (.int .i64 3)]), (.agg [(.int .i64 1), (.int .i64 1), (.int .i64 1), (.int .i64 4)])] h).bind fun r7 =>
  gT 2 r7.1 true fun u7 =>
  gP (some (List.getD u7 0 .opq)) true fun p7x0 =>
  gI .i64 (some (List.getD u7 1 .opq)) true fun i7x1 =>
  letK ((!decide ((i7x1 : Int) = 0)) : Bool) fun b11 =>
  letK ((Option.isNone p7x0) : Bool) fun b14 =>
  letK ((if b11 = true then true else b14) : Bool) fun b15 =>
  if b15 = true then
    (
    some ((.bool false), r7.2)
    )
  else
    (
    (C 38 [(.ptr p7x0), (.int .i64 5), (.bool false)] r7.2).bind fun r18 =>
    gT 2 r18.1 true fun u18 =>
    gI .i64 (some (List.getD u18 0 .opq)) true fun i18x0 =>
    gI .i64 (some (List.getD u18 1 .opq)) true fun i18x1 =>
    letK ((decide ((i18x1 : Int) = 0)) : Bool) fun b22 =>
    letK ((decide ((i18x0 : Int) = 7)) : Bool) fun b25 =>
    letK ((if b22 = true then b25 else false) : Bool) fun b26 =>
    some ((.bool b26), r18.2)
    )
  ) := by kernel_rfl
theorem cf23 : cFn Try.prog 23 = some c23 := by kernel_rfl
theorem e23 (h : Heap) : E 23 [] h = (
  (E 37 [(.agg [(.int .i64 1), (.int .i64 1), (.int .i64 1), (.int .i64 3)]), (.agg [(.int .i64 1), (.int .i64 1), (.int .i64 1), (.int .i64 4)])] h).bind fun r7 =>
  gT 2 r7.1 true fun u7 =>
  gP (some (List.getD u7 0 .opq)) true fun p7x0 =>
  gI .i64 (some (List.getD u7 1 .opq)) true fun i7x1 =>
  letK ((!decide ((i7x1 : Int) = 0)) : Bool) fun b11 =>
  letK ((Option.isNone p7x0) : Bool) fun b14 =>
  letK ((if b11 = true then true else b14) : Bool) fun b15 =>
  if b15 = true then
    (
    some ((.bool false), r7.2)
    )
  else
    (
    (E 38 [(.ptr p7x0), (.int .i64 5), (.bool false)] r7.2).bind fun r18 =>
    gT 2 r18.1 true fun u18 =>
    gI .i64 (some (List.getD u18 0 .opq)) true fun i18x0 =>
    gI .i64 (some (List.getD u18 1 .opq)) true fun i18x1 =>
    letK ((decide ((i18x1 : Int) = 0)) : Bool) fun b22 =>
    letK ((decide ((i18x0 : Int) = 7)) : Bool) fun b25 =>
    letK ((if b22 = true then b25 else false) : Bool) fun b26 =>
    some ((.bool b26), r18.2)
    )
  ) := (EV_eq (P := Try.prog) (T := T0) rfl cf23 [] h).trans (r23 mk0 E h)
def k25x6 : AC := .ret
def k25x5 : AC := .seq (.mask 64) k25x6
def k25x4 : AC := .mask 132
def k25x3 : AC := .seq (.cond (.tmp 22)
   (.seq (.ops false [
      ⟨(some 6), .move (.c (.int .i64 (-1))), none, []⟩]) k25x5)
   (.skip)) k25x4
def k25x14 : AC := .exit 0
def k25x13 : AC := .mask 939524224
def k25x17 : AC := .ops false [
    ⟨(some 33), .move (.tmp 7), none, []⟩,
    ⟨(some 34), .move (.tmp 10), none, []⟩,
    ⟨(some 35), .call 11 [(.tmp 34), (.c (.int .i64 200))] [(.cell (.int .i64))] (.int .i64 0), none, []⟩,
    ⟨(some 36), .call 38 [(.tmp 33), (.tmp 35), (.c (.bool false))] [(.cell (.int .i64)), (.cell (.int .i64))] .opq, none, []⟩]
def k25x16 : AC := .mask 939524224
def k25x15 : AC := .ops false [
    ⟨(some 37), .bin .other .add (.tmp 29) (.c (.int .i64 1)), none, []⟩,
    ⟨(some 29), .move (.tmp 37), none, []⟩]
def k25x12 : AC := .seq (.seq (.block 1 (.seq (.ops false [
     ⟨(some 31), .indexAddr 1 (.tmp 27) (.tmp 29), none, []⟩,
     ⟨(some 32), .load (.cell (.int .i64)) (.tmp 31), none, []⟩,
     ⟨(some 10), .move (.tmp 32), none, []⟩]) k25x17)) k25x16) k25x15
def k25x11 : AC := .seq (.seq (.cond (.tmp 30)
   (.skip)
   (.seq (.mask 128) k25x14)) k25x13) k25x12
def k25x10 : AC := .seq (.ops false [
    ⟨(some 30), .bin .other .lss (.tmp 29) (.tmp 28), none, []⟩]) k25x11
def k25x9 : AC := .mask 128
def k25x8 : AC := .seq (.block 0 (.loop 939524224 128 k25x10)) k25x9
def k25x19 : AC := .ret
def k25x18 : AC := .seq (.mask 64) k25x19
def k25x7 : AC := .seq (.ops false [
    ⟨(some 38), .move (.tmp 7), none, []⟩,
    ⟨(some 39), .call 40 [(.tmp 38)] [(.cell (.int .i64))] (.int .i64 0), none, []⟩,
    ⟨(some 6), .move (.tmp 39), none, []⟩]) k25x18
def k25x2 : AC := .seq (.seq (.ops false [
    ⟨(some 23), .move (.tmp 2), none, []⟩,
    ⟨(some 24), .move (.tmp 2), none, []⟩,
    ⟨(some 25), .lenSl (.tmp 24), none, []⟩,
    ⟨(some 26), .mm false [(.tmp 25), (.c (.int .i64 60))], none, []⟩,
    ⟨(some 27), .slice 1 (.tmp 23) none (some (.tmp 26)), none, []⟩,
    ⟨(some 28), .lenSl (.tmp 27), none, []⟩,
    ⟨(some 29), .move (.c (.int .i64 0)), none, []⟩]) k25x8) k25x7
def k25x1 : AC := .seq (.seq (.ops true [
    ⟨(some 17), .move (.tmp 8), none, []⟩,
    ⟨(some 18), .bin .other .neq (.tmp 17) (.c (.int .i64 0)), none, []⟩,
    ⟨(some 19), .move (.tmp 18), none, []⟩,
    ⟨(some 20), .move (.tmp 7), (some (19, false)), []⟩,
    ⟨(some 21), .bin .ptr .eql (.tmp 20) (.c (.ptr none)), (some (19, false)), []⟩,
    ⟨(some 22), .pick (.tmp 19) (.c (.bool true)) (.tmp 21), none, []⟩]) k25x3) k25x2
def k25x0 : AC := .seq (.ops false [
    ⟨(some 12), .load (.agg [(.int .i64), (.int .i64), (.int .i64), (.int .i64)]) (.tmp 3), none, []⟩,
    ⟨(some 13), .load (.agg [(.int .i64), (.int .i64), (.int .i64), (.int .i64)]) (.tmp 4), none, []⟩,
    ⟨(some 14), .call 37 [(.tmp 12), (.tmp 13)] [(.cell .ptr), (.cell (.int .i64))] .opq, none, []⟩,
    ⟨(some 11), .move (.tmp 14), none, []⟩,
    ⟨(some 15), .extract (.tmp 11) 0, none, []⟩,
    ⟨(some 16), .extract (.tmp 11) 1, none, []⟩,
    ⟨(some 7), .move (.tmp 15), none, []⟩,
    ⟨(some 8), .move (.tmp 16), none, []⟩]) k25x1
/-- provenance/provenancekeep4.misses -/
def c25 : AFn := ⟨40, [.tmp 6],
  .seq (.ops false [
    ⟨(some 3), .boxL (.tmp 0), none, []⟩,
    ⟨(some 4), .boxL (.tmp 1), none, []⟩,
    ⟨(some 6), .move (.c (.int .i64 0)), none, []⟩]) k25x0⟩
def S25xe0 (p7 : Option Ad) (h : Heap) : St := ⟨(rep 7 (.g [] true (.ptr p7) :: (rep 32 []))), h⟩
noncomputable def Q25x10 (M : Mk) (C : Cal) : Kont (AV × Heap) := (blockQ 0 (seqQ (evalE M C k25x9) (seqQ (evalE M C k25x7) (endQ [.tmp 6]))))
noncomputable def L25x10 (p7 : Option Ad) (s27 : SA) (n27 : Nat) (i28 : Int) (i29 : Int) (h : Heap) (Q : Kont R) : Option R := loopE (evalE M C k25x10) 939524224 128 ⟨(rep 7 (.g [] true (.ptr p7) :: (rep 19 (.g [] true (.sl s27 n27) :: (.g [] true (.int .i64 i28) :: (.g [] true (.int .i64 i29) :: (rep 10 []))))))), h⟩ Q
theorem r25 (i0x0 : Int) (i0x1 : Int) (i0x2 : Int) (i0x3 : Int) (i1x0 : Int) (i1x1 : Int) (i1x2 : Int) (i1x3 : Int) (s2 : SA) (n2 : Nat) (h : Heap) : runE M C c25 [(.agg [(.int .i64 i0x0), (.int .i64 i0x1), (.int .i64 i0x2), (.int .i64 i0x3)]), (.agg [(.int .i64 i1x0), (.int .i64 i1x1), (.int .i64 i1x2), (.int .i64 i1x3)]), (.sl s2 n2)] h = (
  (C 37 [(.agg [(.int .i64 i0x0), (.int .i64 i0x1), (.int .i64 i0x2), (.int .i64 i0x3)]), (.agg [(.int .i64 i1x0), (.int .i64 i1x1), (.int .i64 i1x2), (.int .i64 i1x3)])] h).bind fun r14 =>
  gT 2 r14.1 true fun u14 =>
  gP (some (List.getD u14 0 .opq)) true fun p14x0 =>
  gI .i64 (some (List.getD u14 1 .opq)) true fun i14x1 =>
  letK ((!decide ((i14x1 : Int) = 0)) : Bool) fun b18 =>
  letK ((Option.isNone p14x0) : Bool) fun b21 =>
  letK ((if b18 = true then true else b21) : Bool) fun b22 =>
  if b22 = true then
    (
    some ((.int .i64 (-1)), r14.2)
    )
  else
    (
    letK ((foldMM false ((n2 : Nat) : Int) [60]) : Int) fun i26 =>
    chkC (true = true → (0 : Int) ≤ i26 ∧ hiOk r14.2 s2 n2 1 i26) <|
    letK ((Int.toNat i26) : Nat) fun n27 =>
    L25x10 M C p14x0 s2 n27 ((n27 : Nat) : Int) 0 r14.2 (Q25x10 M C)
    )
  ) := by kernel_rfl
theorem cf25 : cFn Try.prog 25 = some c25 := by kernel_rfl
theorem e25 (i0x0 : Int) (i0x1 : Int) (i0x2 : Int) (i0x3 : Int) (i1x0 : Int) (i1x1 : Int) (i1x2 : Int) (i1x3 : Int) (s2 : SA) (n2 : Nat) (h : Heap) : E 25 [(.agg [(.int .i64 i0x0), (.int .i64 i0x1), (.int .i64 i0x2), (.int .i64 i0x3)]), (.agg [(.int .i64 i1x0), (.int .i64 i1x1), (.int .i64 i1x2), (.int .i64 i1x3)]), (.sl s2 n2)] h = (
  (E 37 [(.agg [(.int .i64 i0x0), (.int .i64 i0x1), (.int .i64 i0x2), (.int .i64 i0x3)]), (.agg [(.int .i64 i1x0), (.int .i64 i1x1), (.int .i64 i1x2), (.int .i64 i1x3)])] h).bind fun r14 =>
  gT 2 r14.1 true fun u14 =>
  gP (some (List.getD u14 0 .opq)) true fun p14x0 =>
  gI .i64 (some (List.getD u14 1 .opq)) true fun i14x1 =>
  letK ((!decide ((i14x1 : Int) = 0)) : Bool) fun b18 =>
  letK ((Option.isNone p14x0) : Bool) fun b21 =>
  letK ((if b18 = true then true else b21) : Bool) fun b22 =>
  if b22 = true then
    (
    some ((.int .i64 (-1)), r14.2)
    )
  else
    (
    letK ((foldMM false ((n2 : Nat) : Int) [60]) : Int) fun i26 =>
    chkC (true = true → (0 : Int) ≤ i26 ∧ hiOk r14.2 s2 n2 1 i26) <|
    letK ((Int.toNat i26) : Nat) fun n27 =>
    L25x10 mk0 E p14x0 s2 n27 ((n27 : Nat) : Int) 0 r14.2 (Q25x10 mk0 E)
    )
  ) := (EV_eq (P := Try.prog) (T := T0) rfl cf25 [(.agg [(.int .i64 i0x0), (.int .i64 i0x1), (.int .i64 i0x2), (.int .i64 i0x3)]), (.agg [(.int .i64 i1x0), (.int .i64 i1x1), (.int .i64 i1x2), (.int .i64 i1x3)]), (.sl s2 n2)] h).trans (r25 mk0 E i0x0 i0x1 i0x2 i0x3 i1x0 i1x1 i1x2 i1x3 s2 n2 h)
theorem L25x10xaux (p7 : Option Ad) (s27 : SA) (n27 : Nat) (i28 : Int) (i29 : Int) (h : Heap) (Q : Kont R) : (restrF 939524224 ⟨(rep 7 (.g [] true (.ptr p7) :: (rep 19 (.g [] true (.sl s27 n27) :: (.g [] true (.int .i64 i28) :: (.g [] true (.int .i64 i29) :: (rep 10 []))))))), h⟩ fun σ => evalE M C k25x10 σ (roundQ M C k25x10 939524224 128 Q)) = (
  letK ((decide ((i29 : Int) < i28)) : Bool) fun b30 =>
  if b30 = true then
    (
    chk (true = true → (0 : Int) ≤ i29 ∧ (i29 : Int) < ((n27 : Nat) : Int)) <|
    atP (adP s27) true fun a31 =>
    gI .i64 (ld1 h (Ad.add a31 (Int.toNat i29 * 1))) true fun i32 =>
    (C 11 [(.int .i64 i32), (.int .i64 200)] h).bind fun r35 =>
    gI .i64 (some r35.1) true fun i35 =>
    (C 38 [(.ptr p7), (.int .i64 i35), (.bool false)] r35.2).bind fun r36 =>
    gT 2 r36.1 true fun u36 =>
    gI .i64 (some (List.getD u36 0 .opq)) true fun i36x0 =>
    gI .i64 (some (List.getD u36 1 .opq)) true fun i36x1 =>
    letK ((IntKind.wrap .i64 (i29 + 1)) : Int) fun i37 =>
    L25x10 M C p7 s27 n27 i28 i37 r36.2 Q
    )
  else
    (
    Q (.exit 0) (S25xe0 p7 h)
    )
  ) := by kernel_rfl
theorem L25x10xeq (p7 : Option Ad) (s27 : SA) (n27 : Nat) (i28 : Int) (i29 : Int) (h : Heap) (Q : Kont R) : L25x10 mk0 C p7 s27 n27 i28 i29 h Q = (
  letK ((decide ((i29 : Int) < i28)) : Bool) fun b30 =>
  if b30 = true then
    (
    chk (true = true → (0 : Int) ≤ i29 ∧ (i29 : Int) < ((n27 : Nat) : Int)) <|
    atP (adP s27) true fun a31 =>
    gI .i64 (ld1 h (Ad.add a31 (Int.toNat i29 * 1))) true fun i32 =>
    (C 11 [(.int .i64 i32), (.int .i64 200)] h).bind fun r35 =>
    gI .i64 (some r35.1) true fun i35 =>
    (C 38 [(.ptr p7), (.int .i64 i35), (.bool false)] r35.2).bind fun r36 =>
    gT 2 r36.1 true fun u36 =>
    gI .i64 (some (List.getD u36 0 .opq)) true fun i36x0 =>
    gI .i64 (some (List.getD u36 1 .opq)) true fun i36x1 =>
    letK ((IntKind.wrap .i64 (i29 + 1)) : Int) fun i37 =>
    L25x10 mk0 C p7 s27 n27 i28 i37 r36.2 Q
    )
  else
    (
    Q (.exit 0) (S25xe0 p7 h)
    )
  ) := loop_eqn C k25x10 939524224 128 (rep 7 (.g [] true (.ptr p7) :: (rep 19 (.g [] true (.sl s27 n27) :: (.g [] true (.int .i64 i28) :: (.g [] true (.int .i64 i29) :: (rep 10 []))))))) h Q (by kernel_rfl) (L25x10xaux mk0 C p7 s27 n27 i28 i29 h Q)
theorem X25x10xe0 (M : Mk) (C : Cal) (p7 : Option Ad) (h : Heap) : Q25x10 M C (.exit 0) (S25xe0 p7 h) = (
  (C 40 [(.ptr p7)] h).bind fun r39 =>
  gI .i64 (some r39.1) true fun i39 =>
  some ((.int .i64 i39), r39.2)
  ) := by kernel_rfl
def k7x5 : AC := .ret
def k7x4 : AC := .seq (.mask 256) k7x5
def k7x3 : AC := .mask 120
def k7x2 : AC := .seq (.cond (.tmp 11)
   (.seq (.ops false [
      ⟨(some 8), .move (.c (.bool false)), none, []⟩]) k7x4)
   (.skip)) k7x3
def k7x10 : AC := .ret
def k7x9 : AC := .seq (.mask 256) k7x10
def k7x8 : AC := .mask 120
def k7x7 : AC := .seq (.cond (.tmp 24)
   (.seq (.ops false [
      ⟨(some 8), .move (.c (.bool true)), none, []⟩]) k7x9)
   (.skip)) k7x8
def k7x13 : AC := .ret
def k7x12 : AC := .seq (.mask 256) k7x13
def k7x11 : AC := .seq (.ops true [
    ⟨(some 29), .move (.tmp 9), none, []⟩,
    ⟨(some 30), .bin .other .geq (.tmp 29) (.c (.int .i64 0)), none, []⟩,
    ⟨(some 31), .move (.tmp 30), none, []⟩,
    ⟨(some 32), .move (.tmp 9), (some (31, true)), []⟩,
    ⟨(some 33), .load (.agg [(.int .i64), (.int .i64), (.int .i64), (.int .i64)]) (.tmp 4), (some (31, true)), []⟩,
    ⟨(some 34), .load (.agg [(.int .i64), (.int .i64), (.int .i64), (.int .i64)]) (.tmp 6), (some (31, true)), []⟩,
    ⟨(some 35), .move (.tmp 3), (some (31, true)), []⟩,
    ⟨(some 36), .call 25 [(.tmp 33), (.tmp 34), (.tmp 35)] [(.cell (.int .i64))] (.int .i64 0), (some (31, true)), []⟩,
    ⟨(some 37), .bin .other .eql (.tmp 32) (.tmp 36), (some (31, true)), []⟩,
    ⟨(some 38), .pick (.tmp 31) (.tmp 37) (.c (.bool false)), none, []⟩,
    ⟨(some 39), .move (.tmp 38), none, []⟩,
    ⟨(some 40), .move (.tmp 9), (some (39, true)), []⟩,
    ⟨(some 41), .move (.tmp 3), (some (39, true)), []⟩,
    ⟨(some 42), .lenSl (.tmp 41), (some (39, true)), []⟩,
    ⟨(some 43), .mm false [(.tmp 42), (.c (.int .i64 60))], (some (39, true)), []⟩,
    ⟨(some 44), .bin .other .leq (.tmp 40) (.tmp 43), (some (39, true)), []⟩,
    ⟨(some 45), .pick (.tmp 39) (.tmp 44) (.c (.bool false)), none, []⟩,
    ⟨(some 8), .move (.tmp 45), none, []⟩]) k7x12
def k7x6 : AC := .seq (.ops false [
    ⟨(some 25), .load (.agg [(.int .i64), (.int .i64), (.int .i64), (.int .i64)]) (.tmp 4), none, []⟩,
    ⟨(some 26), .load (.agg [(.int .i64), (.int .i64), (.int .i64), (.int .i64)]) (.tmp 5), none, []⟩,
    ⟨(some 27), .move (.tmp 3), none, []⟩,
    ⟨(some 28), .call 25 [(.tmp 25), (.tmp 26), (.tmp 27)] [(.cell (.int .i64))] (.int .i64 0), none, []⟩,
    ⟨(some 9), .move (.tmp 28), none, []⟩]) k7x11
def k7x1 : AC := .seq (.seq (.ops true [
    ⟨(some 12), .load (.agg [(.int .i64), (.int .i64), (.int .i64), (.int .i64)]) (.tmp 4), none, []⟩,
    ⟨(some 13), .call 24 [(.tmp 12)] [(.cell (.int .i64))] (.int .i64 0), none, []⟩,
    ⟨(some 14), .bin .other .neq (.tmp 13) (.c (.int .i64 0)), none, []⟩,
    ⟨(some 15), .move (.tmp 14), none, []⟩,
    ⟨(some 16), .load (.agg [(.int .i64), (.int .i64), (.int .i64), (.int .i64)]) (.tmp 5), (some (15, false)), []⟩,
    ⟨(some 17), .call 24 [(.tmp 16)] [(.cell (.int .i64))] (.int .i64 0), (some (15, false)), []⟩,
    ⟨(some 18), .bin .other .neq (.tmp 17) (.c (.int .i64 0)), (some (15, false)), []⟩,
    ⟨(some 19), .pick (.tmp 15) (.c (.bool true)) (.tmp 18), none, []⟩,
    ⟨(some 20), .move (.tmp 19), none, []⟩,
    ⟨(some 21), .load (.agg [(.int .i64), (.int .i64), (.int .i64), (.int .i64)]) (.tmp 6), (some (20, false)), []⟩,
    ⟨(some 22), .call 24 [(.tmp 21)] [(.cell (.int .i64))] (.int .i64 0), (some (20, false)), []⟩,
    ⟨(some 23), .bin .other .neq (.tmp 22) (.c (.int .i64 0)), (some (20, false)), []⟩,
    ⟨(some 24), .pick (.tmp 20) (.c (.bool true)) (.tmp 23), none, []⟩]) k7x7) k7x6
def k7x0 : AC := .seq (.seq (.ops false [
    ⟨(some 10), .call 23 [] [(.cell .bool)] (.bool false), none, []⟩,
    ⟨(some 11), .un .not (.tmp 10), none, []⟩]) k7x2) k7x1
/-- provenance/provenancekeep4.CacheLevels -/
def c7 : AFn := ⟨46, [.tmp 8],
  .seq (.ops false [
    ⟨(some 4), .boxL (.tmp 0), none, []⟩,
    ⟨(some 5), .boxL (.tmp 1), none, []⟩,
    ⟨(some 6), .boxL (.tmp 2), none, []⟩,
    ⟨(some 8), .move (.c (.bool false)), none, []⟩]) k7x0⟩
theorem r7 (i0x0 : Int) (i0x1 : Int) (i0x2 : Int) (i0x3 : Int) (i1x0 : Int) (i1x1 : Int) (i1x2 : Int) (i1x3 : Int) (i2x0 : Int) (i2x1 : Int) (i2x2 : Int) (i2x3 : Int) (s3 : SA) (n3 : Nat) (h : Heap) : runE M C c7 [(.agg [(.int .i64 i0x0), (.int .i64 i0x1), (.int .i64 i0x2), (.int .i64 i0x3)]), (.agg [(.int .i64 i1x0), (.int .i64 i1x1), (.int .i64 i1x2), (.int .i64 i1x3)]), (.agg [(.int .i64 i2x0), (.int .i64 i2x1), (.int .i64 i2x2), (.int .i64 i2x3)]), (.sl s3 n3)] h = (
  (C 23 [] h).bind fun r10 =>
  gB (some r10.1) true fun b10 =>
  if (!b10) = true then
    (
    some ((.bool false), r10.2)
    )
  else
    (
    (C 24 [(.agg [(.int .i64 i0x0), (.int .i64 i0x1), (.int .i64 i0x2), (.int .i64 i0x3)])] r10.2).bind fun r13 =>
    gI .i64 (some r13.1) true fun i13 =>
    letK ((!decide ((i13 : Int) = 0)) : Bool) fun b14 =>
    chk ((!b14) = true → 0 + 4 ≤ 4) <|
    gI .i64 (some (.int .i64 i1x0)) (!b14) fun i16x0 =>
    gI .i64 (some (.int .i64 i1x1)) (!b14) fun i16x1 =>
    gI .i64 (some (.int .i64 i1x2)) (!b14) fun i16x2 =>
    gI .i64 (some (.int .i64 i1x3)) (!b14) fun i16x3 =>
    (callO (!b14) (C 24 [(.agg [(.int .i64 i16x0), (.int .i64 i16x1), (.int .i64 i16x2), (.int .i64 i16x3)])] r13.2) (.int .i64 0) r13.2).bind fun r17 =>
    gI .i64 (some r17.1) (!b14) fun i17 =>
    letK ((!decide ((i17 : Int) = 0)) : Bool) fun b18 =>
    letK ((if b14 = true then true else b18) : Bool) fun b19 =>
    chk ((!b19) = true → 0 + 4 ≤ 4) <|
    gI .i64 (some (.int .i64 i2x0)) (!b19) fun i21x0 =>
    gI .i64 (some (.int .i64 i2x1)) (!b19) fun i21x1 =>
    gI .i64 (some (.int .i64 i2x2)) (!b19) fun i21x2 =>
    gI .i64 (some (.int .i64 i2x3)) (!b19) fun i21x3 =>
    (callO (!b19) (C 24 [(.agg [(.int .i64 i21x0), (.int .i64 i21x1), (.int .i64 i21x2), (.int .i64 i21x3)])] r17.2) (.int .i64 0) r17.2).bind fun r22 =>
    gI .i64 (some r22.1) (!b19) fun i22 =>
    letK ((!decide ((i22 : Int) = 0)) : Bool) fun b23 =>
    letK ((if b19 = true then true else b23) : Bool) fun b24 =>
    if b24 = true then
      (
      some ((.bool true), r22.2)
      )
    else
      (
      (C 25 [(.agg [(.int .i64 i0x0), (.int .i64 i0x1), (.int .i64 i0x2), (.int .i64 i0x3)]), (.agg [(.int .i64 i1x0), (.int .i64 i1x1), (.int .i64 i1x2), (.int .i64 i1x3)]), (.sl s3 n3)] r22.2).bind fun r28 =>
      gI .i64 (some r28.1) true fun i28 =>
      letK ((decide ((0 : Int) ≤ i28)) : Bool) fun b30 =>
      chk (b30 = true → 0 + 4 ≤ 4) <|
      gI .i64 (some (.int .i64 i0x0)) b30 fun i33x0 =>
      gI .i64 (some (.int .i64 i0x1)) b30 fun i33x1 =>
      gI .i64 (some (.int .i64 i0x2)) b30 fun i33x2 =>
      gI .i64 (some (.int .i64 i0x3)) b30 fun i33x3 =>
      chk (b30 = true → 0 + 4 ≤ 4) <|
      gI .i64 (some (.int .i64 i2x0)) b30 fun i34x0 =>
      gI .i64 (some (.int .i64 i2x1)) b30 fun i34x1 =>
      gI .i64 (some (.int .i64 i2x2)) b30 fun i34x2 =>
      gI .i64 (some (.int .i64 i2x3)) b30 fun i34x3 =>
      (callO b30 (C 25 [(.agg [(.int .i64 i33x0), (.int .i64 i33x1), (.int .i64 i33x2), (.int .i64 i33x3)]), (.agg [(.int .i64 i34x0), (.int .i64 i34x1), (.int .i64 i34x2), (.int .i64 i34x3)]), (.sl s3 n3)] r28.2) (.int .i64 0) r28.2).bind fun r36 =>
      gI .i64 (some r36.1) b30 fun i36 =>
      letK ((decide ((i28 : Int) = i36)) : Bool) fun b37 =>
      letK ((if b30 = true then b37 else false) : Bool) fun b38 =>
      letK ((foldMM false ((n3 : Nat) : Int) [60]) : Int) fun i43 =>
      letK ((decide ((i28 : Int) ≤ i43)) : Bool) fun b44 =>
      letK ((if b38 = true then b44 else false) : Bool) fun b45 =>
      some ((.bool b45), r36.2)
      )
    )
  ) := by kernel_rfl
theorem cf7 : cFn Try.prog 7 = some c7 := by kernel_rfl
theorem e7 (i0x0 : Int) (i0x1 : Int) (i0x2 : Int) (i0x3 : Int) (i1x0 : Int) (i1x1 : Int) (i1x2 : Int) (i1x3 : Int) (i2x0 : Int) (i2x1 : Int) (i2x2 : Int) (i2x3 : Int) (s3 : SA) (n3 : Nat) (h : Heap) : E 7 [(.agg [(.int .i64 i0x0), (.int .i64 i0x1), (.int .i64 i0x2), (.int .i64 i0x3)]), (.agg [(.int .i64 i1x0), (.int .i64 i1x1), (.int .i64 i1x2), (.int .i64 i1x3)]), (.agg [(.int .i64 i2x0), (.int .i64 i2x1), (.int .i64 i2x2), (.int .i64 i2x3)]), (.sl s3 n3)] h = (
  (E 23 [] h).bind fun r10 =>
  gB (some r10.1) true fun b10 =>
  if (!b10) = true then
    (
    some ((.bool false), r10.2)
    )
  else
    (
    (E 24 [(.agg [(.int .i64 i0x0), (.int .i64 i0x1), (.int .i64 i0x2), (.int .i64 i0x3)])] r10.2).bind fun r13 =>
    gI .i64 (some r13.1) true fun i13 =>
    letK ((!decide ((i13 : Int) = 0)) : Bool) fun b14 =>
    chk ((!b14) = true → 0 + 4 ≤ 4) <|
    gI .i64 (some (.int .i64 i1x0)) (!b14) fun i16x0 =>
    gI .i64 (some (.int .i64 i1x1)) (!b14) fun i16x1 =>
    gI .i64 (some (.int .i64 i1x2)) (!b14) fun i16x2 =>
    gI .i64 (some (.int .i64 i1x3)) (!b14) fun i16x3 =>
    (callO (!b14) (E 24 [(.agg [(.int .i64 i16x0), (.int .i64 i16x1), (.int .i64 i16x2), (.int .i64 i16x3)])] r13.2) (.int .i64 0) r13.2).bind fun r17 =>
    gI .i64 (some r17.1) (!b14) fun i17 =>
    letK ((!decide ((i17 : Int) = 0)) : Bool) fun b18 =>
    letK ((if b14 = true then true else b18) : Bool) fun b19 =>
    chk ((!b19) = true → 0 + 4 ≤ 4) <|
    gI .i64 (some (.int .i64 i2x0)) (!b19) fun i21x0 =>
    gI .i64 (some (.int .i64 i2x1)) (!b19) fun i21x1 =>
    gI .i64 (some (.int .i64 i2x2)) (!b19) fun i21x2 =>
    gI .i64 (some (.int .i64 i2x3)) (!b19) fun i21x3 =>
    (callO (!b19) (E 24 [(.agg [(.int .i64 i21x0), (.int .i64 i21x1), (.int .i64 i21x2), (.int .i64 i21x3)])] r17.2) (.int .i64 0) r17.2).bind fun r22 =>
    gI .i64 (some r22.1) (!b19) fun i22 =>
    letK ((!decide ((i22 : Int) = 0)) : Bool) fun b23 =>
    letK ((if b19 = true then true else b23) : Bool) fun b24 =>
    if b24 = true then
      (
      some ((.bool true), r22.2)
      )
    else
      (
      (E 25 [(.agg [(.int .i64 i0x0), (.int .i64 i0x1), (.int .i64 i0x2), (.int .i64 i0x3)]), (.agg [(.int .i64 i1x0), (.int .i64 i1x1), (.int .i64 i1x2), (.int .i64 i1x3)]), (.sl s3 n3)] r22.2).bind fun r28 =>
      gI .i64 (some r28.1) true fun i28 =>
      letK ((decide ((0 : Int) ≤ i28)) : Bool) fun b30 =>
      chk (b30 = true → 0 + 4 ≤ 4) <|
      gI .i64 (some (.int .i64 i0x0)) b30 fun i33x0 =>
      gI .i64 (some (.int .i64 i0x1)) b30 fun i33x1 =>
      gI .i64 (some (.int .i64 i0x2)) b30 fun i33x2 =>
      gI .i64 (some (.int .i64 i0x3)) b30 fun i33x3 =>
      chk (b30 = true → 0 + 4 ≤ 4) <|
      gI .i64 (some (.int .i64 i2x0)) b30 fun i34x0 =>
      gI .i64 (some (.int .i64 i2x1)) b30 fun i34x1 =>
      gI .i64 (some (.int .i64 i2x2)) b30 fun i34x2 =>
      gI .i64 (some (.int .i64 i2x3)) b30 fun i34x3 =>
      (callO b30 (E 25 [(.agg [(.int .i64 i33x0), (.int .i64 i33x1), (.int .i64 i33x2), (.int .i64 i33x3)]), (.agg [(.int .i64 i34x0), (.int .i64 i34x1), (.int .i64 i34x2), (.int .i64 i34x3)]), (.sl s3 n3)] r28.2) (.int .i64 0) r28.2).bind fun r36 =>
      gI .i64 (some r36.1) b30 fun i36 =>
      letK ((decide ((i28 : Int) = i36)) : Bool) fun b37 =>
      letK ((if b30 = true then b37 else false) : Bool) fun b38 =>
      letK ((foldMM false ((n3 : Nat) : Int) [60]) : Int) fun i43 =>
      letK ((decide ((i28 : Int) ≤ i43)) : Bool) fun b44 =>
      letK ((if b38 = true then b44 else false) : Bool) fun b45 =>
      some ((.bool b45), r36.2)
      )
    )
  ) := (EV_eq (P := Try.prog) (T := T0) rfl cf7 [(.agg [(.int .i64 i0x0), (.int .i64 i0x1), (.int .i64 i0x2), (.int .i64 i0x3)]), (.agg [(.int .i64 i1x0), (.int .i64 i1x1), (.int .i64 i1x2), (.int .i64 i1x3)]), (.agg [(.int .i64 i2x0), (.int .i64 i2x1), (.int .i64 i2x2), (.int .i64 i2x3)]), (.sl s3 n3)] h).trans (r7 mk0 E i0x0 i0x1 i0x2 i0x3 i1x0 i1x1 i1x2 i1x3 i2x0 i2x1 i2x2 i2x3 s3 n3 h)
def k8x5 : AC := .ret
def k8x4 : AC := .seq (.mask 256) k8x5
def k8x3 : AC := .mask 15
def k8x2 : AC := .seq (.cond (.tmp 13)
   (.seq (.ops false [
      ⟨(some 8), .move (.c (.bool false)), none, []⟩]) k8x4)
   (.skip)) k8x3
def k8x11 : AC := .ret
def k8x10 : AC := .seq (.mask 256) k8x11
def k8x9 : AC := .seq (.ops true [
    ⟨(some 33), .move (.tmp 11), none, []⟩,
    ⟨(some 34), .bin .other .geq (.tmp 33) (.c (.int .i64 0)), none, []⟩,
    ⟨(some 35), .move (.tmp 34), none, []⟩,
    ⟨(some 36), .load (.agg [(.int .i64), (.int .i64), (.int .i64), (.int .i64)]) (.tmp 10), (some (35, true)), []⟩,
    ⟨(some 37), .load (.agg [(.int .i64), (.int .i64), (.int .i64), (.int .i64)]) (.tmp 9), (some (35, true)), []⟩,
    ⟨(some 38), .move (.tmp 3), (some (35, true)), []⟩,
    ⟨(some 39), .call 25 [(.tmp 36), (.tmp 37), (.tmp 38)] [(.cell (.int .i64))] (.int .i64 0), (some (35, true)), []⟩,
    ⟨(some 40), .move (.tmp 11), (some (35, true)), []⟩,
    ⟨(some 41), .bin .other .leq (.tmp 39) (.tmp 40), (some (35, true)), []⟩,
    ⟨(some 42), .pick (.tmp 35) (.tmp 41) (.c (.bool false)), none, []⟩,
    ⟨(some 8), .move (.tmp 42), none, []⟩]) k8x10
def k8x8 : AC := .seq (.ops false [
    ⟨(some 29), .load (.agg [(.int .i64), (.int .i64), (.int .i64), (.int .i64)]) (.tmp 9), none, []⟩,
    ⟨(some 30), .load (.agg [(.int .i64), (.int .i64), (.int .i64), (.int .i64)]) (.tmp 9), none, []⟩,
    ⟨(some 31), .move (.tmp 3), none, []⟩,
    ⟨(some 32), .call 25 [(.tmp 29), (.tmp 30), (.tmp 31)] [(.cell (.int .i64))] (.int .i64 0), none, []⟩,
    ⟨(some 11), .move (.tmp 32), none, []⟩]) k8x9
def k8x7 : AC := .seq (.ops false [
    ⟨(some 25), .fieldAddr 2 (.tmp 10), none, []⟩,
    ⟨(some 26), .load (.cell (.int .i64)) (.tmp 25), none, []⟩,
    ⟨(some 27), .bin .other .add (.tmp 26) (.c (.int .i64 1)), none, []⟩,
    ⟨(some 28), .fieldAddr 2 (.tmp 10), none, []⟩,
    ⟨none, .store 1 (.tmp 28) (.tmp 27), none, []⟩]) k8x8
def k8x6 : AC := .seq (.ops false [
    ⟨(some 24), .load (.agg [(.int .i64), (.int .i64), (.int .i64), (.int .i64)]) (.tmp 9), none, []⟩,
    ⟨(some 10), .allocL [(.int .i64 0), (.int .i64 0), (.int .i64 0), (.int .i64 0)], none, []⟩,
    ⟨none, .store 4 (.tmp 10) (.tmp 24), none, []⟩]) k8x7
def k8x1 : AC := .seq (.ops false [
    ⟨(some 14), .move (.tmp 0), none, []⟩,
    ⟨(some 15), .call 11 [(.tmp 14), (.c (.int .i64 8))] [(.cell (.int .i64))] (.int .i64 0), none, []⟩,
    ⟨(some 16), .bin .other .add (.c (.int .i64 1)) (.tmp 15), none, []⟩,
    ⟨(some 17), .move (.tmp 1), none, []⟩,
    ⟨(some 18), .call 11 [(.tmp 17), (.c (.int .i64 8))] [(.cell (.int .i64))] (.int .i64 0), none, []⟩,
    ⟨(some 19), .bin .other .add (.c (.int .i64 1)) (.tmp 18), none, []⟩,
    ⟨(some 20), .move (.tmp 2), none, []⟩,
    ⟨(some 21), .call 11 [(.tmp 20), (.c (.int .i64 7))] [(.cell (.int .i64))] (.int .i64 0), none, []⟩,
    ⟨(some 22), .bin .other .add (.c (.int .i64 1)) (.tmp 21), none, []⟩,
    ⟨(some 23), .build [(.int .i64 0), (.int .i64 0), (.int .i64 0), (.int .i64 0)] [(0, 1, (.tmp 16)), (1, 1, (.tmp 19)), (2, 1, (.tmp 22)), (3, 1, (.c (.int .i64 1)))], none, []⟩,
    ⟨(some 9), .allocL [(.int .i64 0), (.int .i64 0), (.int .i64 0), (.int .i64 0)], none, []⟩,
    ⟨none, .store 4 (.tmp 9) (.tmp 23), none, []⟩]) k8x6
def k8x0 : AC := .seq (.seq (.ops false [
    ⟨(some 12), .call 23 [] [(.cell .bool)] (.bool false), none, []⟩,
    ⟨(some 13), .un .not (.tmp 12), none, []⟩]) k8x2) k8x1
/-- provenance/provenancekeep4.CacheWays -/
def c8 : AFn := ⟨43, [.tmp 8],
  .seq (.ops false [
    ⟨(some 8), .move (.c (.bool false)), none, []⟩]) k8x0⟩
theorem r8 (i0 : Int) (i1 : Int) (i2 : Int) (s3 : SA) (n3 : Nat) (h : Heap) : runE M C c8 [(.int .i64 i0), (.int .i64 i1), (.int .i64 i2), (.sl s3 n3)] h = (
  (C 23 [] h).bind fun r12 =>
  gB (some r12.1) true fun b12 =>
  if (!b12) = true then
    (
    some ((.bool false), r12.2)
    )
  else
    (
    (C 11 [(.int .i64 i0), (.int .i64 8)] r12.2).bind fun r15 =>
    gI .i64 (some r15.1) true fun i15 =>
    letK ((IntKind.wrap .i64 (1 + i15)) : Int) fun i16 =>
    (C 11 [(.int .i64 i1), (.int .i64 8)] r15.2).bind fun r18 =>
    gI .i64 (some r18.1) true fun i18 =>
    letK ((IntKind.wrap .i64 (1 + i18)) : Int) fun i19 =>
    (C 11 [(.int .i64 i2), (.int .i64 7)] r18.2).bind fun r21 =>
    gI .i64 (some r21.1) true fun i21 =>
    letK ((IntKind.wrap .i64 (1 + i21)) : Int) fun i22 =>
    letK ((IntKind.wrap .i64 (i22 + 1)) : Int) fun i27 =>
    (C 25 [(.agg [(.int .i64 i16), (.int .i64 i19), (.int .i64 i22), (.int .i64 1)]), (.agg [(.int .i64 i16), (.int .i64 i19), (.int .i64 i22), (.int .i64 1)]), (.sl s3 n3)] r21.2).bind fun r32 =>
    gI .i64 (some r32.1) true fun i32 =>
    letK ((decide ((0 : Int) ≤ i32)) : Bool) fun b34 =>
    chk (b34 = true → 0 + 4 ≤ 4) <|
    gI .i64 (some (.int .i64 i16)) b34 fun i36x0 =>
    gI .i64 (some (.int .i64 i19)) b34 fun i36x1 =>
    gI .i64 (some (.int .i64 i27)) b34 fun i36x2 =>
    gI .i64 (some (.int .i64 1)) b34 fun i36x3 =>
    chk (b34 = true → 0 + 4 ≤ 4) <|
    gI .i64 (some (.int .i64 i16)) b34 fun i37x0 =>
    gI .i64 (some (.int .i64 i19)) b34 fun i37x1 =>
    gI .i64 (some (.int .i64 i22)) b34 fun i37x2 =>
    gI .i64 (some (.int .i64 1)) b34 fun i37x3 =>
    (callO b34 (C 25 [(.agg [(.int .i64 i36x0), (.int .i64 i36x1), (.int .i64 i36x2), (.int .i64 i36x3)]), (.agg [(.int .i64 i37x0), (.int .i64 i37x1), (.int .i64 i37x2), (.int .i64 i37x3)]), (.sl s3 n3)] r32.2) (.int .i64 0) r32.2).bind fun r39 =>
    gI .i64 (some r39.1) b34 fun i39 =>
    letK ((decide ((i39 : Int) ≤ i32)) : Bool) fun b41 =>
    letK ((if b34 = true then b41 else false) : Bool) fun b42 =>
    some ((.bool b42), r39.2)
    )
  ) := by kernel_rfl
theorem cf8 : cFn Try.prog 8 = some c8 := by kernel_rfl
theorem e8 (i0 : Int) (i1 : Int) (i2 : Int) (s3 : SA) (n3 : Nat) (h : Heap) : E 8 [(.int .i64 i0), (.int .i64 i1), (.int .i64 i2), (.sl s3 n3)] h = (
  (E 23 [] h).bind fun r12 =>
  gB (some r12.1) true fun b12 =>
  if (!b12) = true then
    (
    some ((.bool false), r12.2)
    )
  else
    (
    (E 11 [(.int .i64 i0), (.int .i64 8)] r12.2).bind fun r15 =>
    gI .i64 (some r15.1) true fun i15 =>
    letK ((IntKind.wrap .i64 (1 + i15)) : Int) fun i16 =>
    (E 11 [(.int .i64 i1), (.int .i64 8)] r15.2).bind fun r18 =>
    gI .i64 (some r18.1) true fun i18 =>
    letK ((IntKind.wrap .i64 (1 + i18)) : Int) fun i19 =>
    (E 11 [(.int .i64 i2), (.int .i64 7)] r18.2).bind fun r21 =>
    gI .i64 (some r21.1) true fun i21 =>
    letK ((IntKind.wrap .i64 (1 + i21)) : Int) fun i22 =>
    letK ((IntKind.wrap .i64 (i22 + 1)) : Int) fun i27 =>
    (E 25 [(.agg [(.int .i64 i16), (.int .i64 i19), (.int .i64 i22), (.int .i64 1)]), (.agg [(.int .i64 i16), (.int .i64 i19), (.int .i64 i22), (.int .i64 1)]), (.sl s3 n3)] r21.2).bind fun r32 =>
    gI .i64 (some r32.1) true fun i32 =>
    letK ((decide ((0 : Int) ≤ i32)) : Bool) fun b34 =>
    chk (b34 = true → 0 + 4 ≤ 4) <|
    gI .i64 (some (.int .i64 i16)) b34 fun i36x0 =>
    gI .i64 (some (.int .i64 i19)) b34 fun i36x1 =>
    gI .i64 (some (.int .i64 i27)) b34 fun i36x2 =>
    gI .i64 (some (.int .i64 1)) b34 fun i36x3 =>
    chk (b34 = true → 0 + 4 ≤ 4) <|
    gI .i64 (some (.int .i64 i16)) b34 fun i37x0 =>
    gI .i64 (some (.int .i64 i19)) b34 fun i37x1 =>
    gI .i64 (some (.int .i64 i22)) b34 fun i37x2 =>
    gI .i64 (some (.int .i64 1)) b34 fun i37x3 =>
    (callO b34 (E 25 [(.agg [(.int .i64 i36x0), (.int .i64 i36x1), (.int .i64 i36x2), (.int .i64 i36x3)]), (.agg [(.int .i64 i37x0), (.int .i64 i37x1), (.int .i64 i37x2), (.int .i64 i37x3)]), (.sl s3 n3)] r32.2) (.int .i64 0) r32.2).bind fun r39 =>
    gI .i64 (some r39.1) b34 fun i39 =>
    letK ((decide ((i39 : Int) ≤ i32)) : Bool) fun b41 =>
    letK ((if b34 = true then b41 else false) : Bool) fun b42 =>
    some ((.bool b42), r39.2)
    )
  ) := (EV_eq (P := Try.prog) (T := T0) rfl cf8 [(.int .i64 i0), (.int .i64 i1), (.int .i64 i2), (.sl s3 n3)] h).trans (r8 mk0 E i0 i1 i2 s3 n3 h)
def k9x5 : AC := .ret
def k9x4 : AC := .seq (.mask 16) k9x5
def k9x3 : AC := .mask 3
def k9x2 : AC := .seq (.cond (.tmp 12)
   (.seq (.ops false [
      ⟨(some 4), .move (.c (.bool false)), none, []⟩]) k9x4)
   (.skip)) k9x3
def k9x16 : AC := .exit 0
def k9x15 : AC := .mask 29360354
def k9x23 : AC := .ops false [
    ⟨(some 41), .move (.tmp 7), none, []⟩,
    ⟨(some 42), .bin .other .add (.tmp 41) (.c (.int .i64 1)), none, []⟩,
    ⟨(some 7), .move (.tmp 42), none, []⟩]
def k9x22 : AC := .join 29360354
def k9x21 : AC := .seq (.cond (.tmp 37)
   (.seq (.ops false [
      ⟨(some 38), .move (.tmp 6), none, []⟩,
      ⟨(some 39), .move (.tmp 10), none, []⟩,
      ⟨(some 40), .indexAddr 1 (.tmp 38) (.tmp 39), none, []⟩,
      ⟨none, .store 1 (.tmp 40) (.c (.bool true)), none, []⟩]) k9x23)
   (.skip)) k9x22
def k9x20 : AC := .seq (.ops false [
    ⟨(some 33), .move (.tmp 6), none, []⟩,
    ⟨(some 34), .move (.tmp 10), none, []⟩,
    ⟨(some 35), .indexAddr 1 (.tmp 33) (.tmp 34), none, []⟩,
    ⟨(some 36), .load (.cell .bool) (.tmp 35), none, []⟩,
    ⟨(some 37), .un .not (.tmp 36), none, []⟩]) k9x21
def k9x19 : AC := .seq (.ops false [
    ⟨(some 28), .move (.tmp 9), none, []⟩,
    ⟨(some 30), .fieldAddr 0 (.tmp 5), none, []⟩,
    ⟨(some 31), .load (.cell (.int .i64)) (.tmp 30), none, []⟩,
    ⟨(some 29), .call 11 [(.tmp 28), (.c (.int .i64 200))] [(.cell (.int .i64))] (.int .i64 0), none, [.load 1 30 none]⟩,
    ⟨(some 32), .bin .other .quo (.tmp 29) (.tmp 31), none, []⟩,
    ⟨(some 10), .move (.tmp 32), none, []⟩]) k9x20
def k9x18 : AC := .mask 29360354
def k9x17 : AC := .ops false [
    ⟨(some 43), .bin .other .add (.tmp 24) (.c (.int .i64 1)), none, []⟩,
    ⟨(some 24), .move (.tmp 43), none, []⟩]
def k9x14 : AC := .seq (.seq (.block 1 (.seq (.ops false [
     ⟨(some 26), .indexAddr 1 (.tmp 22) (.tmp 24), none, []⟩,
     ⟨(some 27), .load (.cell (.int .i64)) (.tmp 26), none, []⟩,
     ⟨(some 9), .move (.tmp 27), none, []⟩]) k9x19)) k9x18) k9x17
def k9x13 : AC := .seq (.seq (.cond (.tmp 25)
   (.skip)
   (.seq (.mask 162) k9x16)) k9x15) k9x14
def k9x12 : AC := .seq (.ops false [
    ⟨(some 25), .bin .other .lss (.tmp 24) (.tmp 23), none, []⟩]) k9x13
def k9x11 : AC := .mask 162
def k9x10 : AC := .seq (.block 0 (.loop 29360354 162 k9x12)) k9x11
def k9x26 : AC := .ret
def k9x25 : AC := .seq (.mask 16) k9x26
def k9x9 : AC := .seq (.ops false [
    ⟨(some 44), .load (.agg [(.int .i64), (.int .i64), (.int .i64), (.int .i64)]) (.tmp 5), none, []⟩,
    ⟨(some 45), .load (.agg [(.int .i64), (.int .i64), (.int .i64), (.int .i64)]) (.tmp 5), none, []⟩,
    ⟨(some 46), .move (.tmp 1), none, []⟩,
    ⟨(some 47), .call 25 [(.tmp 44), (.tmp 45), (.tmp 46)] [(.cell (.int .i64))] (.int .i64 0), none, []⟩,
    ⟨(some 48), .move (.tmp 7), none, []⟩,
    ⟨(some 49), .bin .other .eql (.tmp 47) (.tmp 48), none, []⟩,
    ⟨(some 4), .move (.tmp 49), none, []⟩]) k9x25
def k9x8 : AC := .seq (.seq (.ops false [
    ⟨(some 18), .move (.tmp 1), none, []⟩,
    ⟨(some 19), .move (.tmp 1), none, []⟩,
    ⟨(some 20), .lenSl (.tmp 19), none, []⟩,
    ⟨(some 21), .mm false [(.tmp 20), (.c (.int .i64 60))], none, []⟩,
    ⟨(some 22), .slice 1 (.tmp 18) none (some (.tmp 21)), none, []⟩,
    ⟨(some 23), .lenSl (.tmp 22), none, []⟩,
    ⟨(some 24), .move (.c (.int .i64 0)), none, []⟩]) k9x10) k9x9
def k9x7 : AC := .seq (.ops false [
    ⟨(some 7), .move (.c (.int .i64 0)), none, []⟩]) k9x8
def k9x6 : AC := .seq (.ops false [
    ⟨(some 17), .makeSl [(.bool false)] 1 (.c (.int .i64 200)) (.c (.int .i64 200)), none, []⟩,
    ⟨(some 6), .move (.tmp 17), none, []⟩]) k9x7
def k9x1 : AC := .seq (.ops false [
    ⟨(some 13), .move (.tmp 0), none, []⟩,
    ⟨(some 14), .call 11 [(.tmp 13), (.c (.int .i64 8))] [(.cell (.int .i64))] (.int .i64 0), none, []⟩,
    ⟨(some 15), .bin .other .add (.c (.int .i64 1)) (.tmp 14), none, []⟩,
    ⟨(some 16), .build [(.int .i64 0), (.int .i64 0), (.int .i64 0), (.int .i64 0)] [(0, 1, (.tmp 15)), (1, 1, (.c (.int .i64 256))), (2, 1, (.c (.int .i64 1))), (3, 1, (.c (.int .i64 1)))], none, []⟩,
    ⟨(some 5), .allocL [(.int .i64 0), (.int .i64 0), (.int .i64 0), (.int .i64 0)], none, []⟩,
    ⟨none, .store 4 (.tmp 5) (.tmp 16), none, []⟩]) k9x6
def k9x0 : AC := .seq (.seq (.ops false [
    ⟨(some 11), .call 23 [] [(.cell .bool)] (.bool false), none, []⟩,
    ⟨(some 12), .un .not (.tmp 11), none, []⟩]) k9x2) k9x1
/-- provenance/provenancekeep4.CacheFits -/
def c9 : AFn := ⟨50, [.tmp 4],
  .seq (.ops false [
    ⟨(some 4), .move (.c (.bool false)), none, []⟩]) k9x0⟩
def S9xe0 (s1 : SA) (n1 : Nat) (i5x0 : Int) (i5x1 : Int) (i5x2 : Int) (i5x3 : Int) (i7 : Int) (h : Heap) : St := ⟨(.any :: (.g [] true (.sl s1 n1) :: (rep 3 (.box [(.int .i64 i5x0), (.int .i64 i5x1), (.int .i64 i5x2), (.int .i64 i5x3)] :: (.any :: (.g [] true (.int .i64 i7) :: (rep 42 []))))))), h⟩
noncomputable def Q9x12 (M : Mk) (C : Cal) : Kont (AV × Heap) := (blockQ 0 (seqQ (evalE M C k9x11) (seqQ (evalE M C k9x9) (endQ [.tmp 4]))))
noncomputable def L9x12 (s1 : SA) (n1 : Nat) (i5x0 : Int) (i5x1 : Int) (i5x2 : Int) (i5x3 : Int) (s6 : SA) (n6 : Nat) (i7 : Int) (s22 : SA) (n22 : Nat) (i23 : Int) (i24 : Int) (h : Heap) (Q : Kont R) : Option R := loopE (evalE M C k9x12) 29360354 162 ⟨(.any :: (.g [] true (.sl s1 n1) :: (rep 3 (.box [(.int .i64 i5x0), (.int .i64 i5x1), (.int .i64 i5x2), (.int .i64 i5x3)] :: (.g [] true (.sl s6 n6) :: (.g [] true (.int .i64 i7) :: (rep 14 (.g [] true (.sl s22 n22) :: (.g [] true (.int .i64 i23) :: (.g [] true (.int .i64 i24) :: (rep 25 []))))))))))), h⟩ Q
noncomputable def J9x24 (M : Mk) (C : Cal) (s1 : SA) (n1 : Nat) (i5x0 : Int) (i5x1 : Int) (i5x2 : Int) (i5x3 : Int) (s6 : SA) (n6 : Nat) (i7 : Int) (s22 : SA) (n22 : Nat) (i23 : Int) (i24 : Int) (h : Heap) (Q : Kont R) : Option R := M R (blockQ 1 (seqQ (evalE M C k9x18) (seqQ (evalE M C k9x17) (roundQ M C k9x12 29360354 162 Q)))) (.any :: (.g [] true (.sl s1 n1) :: (rep 3 (.box [(.int .i64 i5x0), (.int .i64 i5x1), (.int .i64 i5x2), (.int .i64 i5x3)] :: (.g [] true (.sl s6 n6) :: (.g [] true (.int .i64 i7) :: (rep 14 (.g [] true (.sl s22 n22) :: (.g [] true (.int .i64 i23) :: (.g [] true (.int .i64 i24) :: (rep 25 []))))))))))) h
theorem r9 (i0 : Int) (s1 : SA) (n1 : Nat) (h : Heap) : runE M C c9 [(.int .i64 i0), (.sl s1 n1)] h = (
  (C 23 [] h).bind fun r11 =>
  gB (some r11.1) true fun b11 =>
  if (!b11) = true then
    (
    some ((.bool false), r11.2)
    )
  else
    (
    (C 11 [(.int .i64 i0), (.int .i64 8)] r11.2).bind fun r14 =>
    gI .i64 (some r14.1) true fun i14 =>
    letK ((IntKind.wrap .i64 (1 + i14)) : Int) fun i15 =>
    chk ((0 : Int) ≤ 200 ∧ (200 : Int) ≤ 200 ∧ 200 * ((1 : Nat) : Int) ≤ 70368744177664) <|
    newK r14.2 (.cells (repl (Int.toNat 200) [(.bool false)]) (.grow 1) 0) fun h_2 =>
    letK ((Int.toNat 200) : Nat) fun n17 =>
    letK ((foldMM false ((n1 : Nat) : Int) [60]) : Int) fun i21 =>
    chkC (true = true → (0 : Int) ≤ i21 ∧ hiOk h_2 s1 n1 1 i21) <|
    letK ((Int.toNat i21) : Nat) fun n22 =>
    L9x12 M C s1 n1 i15 256 1 1 (.pos ⟨List.length r14.2, 0, 0⟩) n17 0 s1 n22 ((n22 : Nat) : Int) 0 h_2 (Q9x12 M C)
    )
  ) := by kernel_rfl
theorem cf9 : cFn Try.prog 9 = some c9 := by kernel_rfl
theorem e9 (i0 : Int) (s1 : SA) (n1 : Nat) (h : Heap) : E 9 [(.int .i64 i0), (.sl s1 n1)] h = (
  (E 23 [] h).bind fun r11 =>
  gB (some r11.1) true fun b11 =>
  if (!b11) = true then
    (
    some ((.bool false), r11.2)
    )
  else
    (
    (E 11 [(.int .i64 i0), (.int .i64 8)] r11.2).bind fun r14 =>
    gI .i64 (some r14.1) true fun i14 =>
    letK ((IntKind.wrap .i64 (1 + i14)) : Int) fun i15 =>
    chk ((0 : Int) ≤ 200 ∧ (200 : Int) ≤ 200 ∧ 200 * ((1 : Nat) : Int) ≤ 70368744177664) <|
    newK r14.2 (.cells (repl (Int.toNat 200) [(.bool false)]) (.grow 1) 0) fun h_2 =>
    letK ((Int.toNat 200) : Nat) fun n17 =>
    letK ((foldMM false ((n1 : Nat) : Int) [60]) : Int) fun i21 =>
    chkC (true = true → (0 : Int) ≤ i21 ∧ hiOk h_2 s1 n1 1 i21) <|
    letK ((Int.toNat i21) : Nat) fun n22 =>
    L9x12 mk0 E s1 n1 i15 256 1 1 (.pos ⟨List.length r14.2, 0, 0⟩) n17 0 s1 n22 ((n22 : Nat) : Int) 0 h_2 (Q9x12 mk0 E)
    )
  ) := (EV_eq (P := Try.prog) (T := T0) rfl cf9 [(.int .i64 i0), (.sl s1 n1)] h).trans (r9 mk0 E i0 s1 n1 h)
theorem L9x12xaux (s1 : SA) (n1 : Nat) (i5x0 : Int) (i5x1 : Int) (i5x2 : Int) (i5x3 : Int) (s6 : SA) (n6 : Nat) (i7 : Int) (s22 : SA) (n22 : Nat) (i23 : Int) (i24 : Int) (h : Heap) (Q : Kont R) : (restrF 29360354 ⟨(.any :: (.g [] true (.sl s1 n1) :: (rep 3 (.box [(.int .i64 i5x0), (.int .i64 i5x1), (.int .i64 i5x2), (.int .i64 i5x3)] :: (.g [] true (.sl s6 n6) :: (.g [] true (.int .i64 i7) :: (rep 14 (.g [] true (.sl s22 n22) :: (.g [] true (.int .i64 i23) :: (.g [] true (.int .i64 i24) :: (rep 25 []))))))))))), h⟩ fun σ => evalE M C k9x12 σ (roundQ M C k9x12 29360354 162 Q)) = (
  letK ((decide ((i24 : Int) < i23)) : Bool) fun b25 =>
  if b25 = true then
    (
    chk (true = true → (0 : Int) ≤ i24 ∧ (i24 : Int) < ((n22 : Nat) : Int)) <|
    atP (adP s22) true fun a26 =>
    gI .i64 (ld1 h (Ad.add a26 (Int.toNat i24 * 1))) true fun i27 =>
    (C 11 [(.int .i64 i27), (.int .i64 200)] h).bind fun r29 =>
    gI .i64 (some r29.1) true fun i29 =>
    chk (true = true → (i5x0 : Int) ≠ 0) <|
    letK ((IntKind.wrap .i64 (Int.tdiv i29 i5x0)) : Int) fun i32 =>
    chk (true = true → (0 : Int) ≤ i32 ∧ (i32 : Int) < ((n6 : Nat) : Int)) <|
    atP (adP s6) true fun a35 =>
    gB (ld1 r29.2 (Ad.add a35 (Int.toNat i32 * 1))) true fun b36 =>
    if (!b36) = true then
      (
      chk (true = true → (0 : Int) ≤ i32 ∧ (i32 : Int) < ((n6 : Nat) : Int)) <|
      atP (adP s6) true fun a40 =>
      (st1 r29.2 (Ad.add a40 (Int.toNat i32 * 1)) (.bool true)).bind fun h_2 =>
      letK ((IntKind.wrap .i64 (i7 + 1)) : Int) fun i42 =>
      J9x24 M C s1 n1 i5x0 i5x1 i5x2 i5x3 s6 n6 i42 s22 n22 i23 i24 h_2 Q
      )
    else
      (
      J9x24 M C s1 n1 i5x0 i5x1 i5x2 i5x3 s6 n6 i7 s22 n22 i23 i24 r29.2 Q
      )
    )
  else
    (
    Q (.exit 0) (S9xe0 s1 n1 i5x0 i5x1 i5x2 i5x3 i7 h)
    )
  ) := by kernel_rfl
theorem L9x12xeq (s1 : SA) (n1 : Nat) (i5x0 : Int) (i5x1 : Int) (i5x2 : Int) (i5x3 : Int) (s6 : SA) (n6 : Nat) (i7 : Int) (s22 : SA) (n22 : Nat) (i23 : Int) (i24 : Int) (h : Heap) (Q : Kont R) : L9x12 mk0 C s1 n1 i5x0 i5x1 i5x2 i5x3 s6 n6 i7 s22 n22 i23 i24 h Q = (
  letK ((decide ((i24 : Int) < i23)) : Bool) fun b25 =>
  if b25 = true then
    (
    chk (true = true → (0 : Int) ≤ i24 ∧ (i24 : Int) < ((n22 : Nat) : Int)) <|
    atP (adP s22) true fun a26 =>
    gI .i64 (ld1 h (Ad.add a26 (Int.toNat i24 * 1))) true fun i27 =>
    (C 11 [(.int .i64 i27), (.int .i64 200)] h).bind fun r29 =>
    gI .i64 (some r29.1) true fun i29 =>
    chk (true = true → (i5x0 : Int) ≠ 0) <|
    letK ((IntKind.wrap .i64 (Int.tdiv i29 i5x0)) : Int) fun i32 =>
    chk (true = true → (0 : Int) ≤ i32 ∧ (i32 : Int) < ((n6 : Nat) : Int)) <|
    atP (adP s6) true fun a35 =>
    gB (ld1 r29.2 (Ad.add a35 (Int.toNat i32 * 1))) true fun b36 =>
    if (!b36) = true then
      (
      chk (true = true → (0 : Int) ≤ i32 ∧ (i32 : Int) < ((n6 : Nat) : Int)) <|
      atP (adP s6) true fun a40 =>
      (st1 r29.2 (Ad.add a40 (Int.toNat i32 * 1)) (.bool true)).bind fun h_2 =>
      letK ((IntKind.wrap .i64 (i7 + 1)) : Int) fun i42 =>
      J9x24 mk0 C s1 n1 i5x0 i5x1 i5x2 i5x3 s6 n6 i42 s22 n22 i23 i24 h_2 Q
      )
    else
      (
      J9x24 mk0 C s1 n1 i5x0 i5x1 i5x2 i5x3 s6 n6 i7 s22 n22 i23 i24 r29.2 Q
      )
    )
  else
    (
    Q (.exit 0) (S9xe0 s1 n1 i5x0 i5x1 i5x2 i5x3 i7 h)
    )
  ) := loop_eqn C k9x12 29360354 162 (.any :: (.g [] true (.sl s1 n1) :: (rep 3 (.box [(.int .i64 i5x0), (.int .i64 i5x1), (.int .i64 i5x2), (.int .i64 i5x3)] :: (.g [] true (.sl s6 n6) :: (.g [] true (.int .i64 i7) :: (rep 14 (.g [] true (.sl s22 n22) :: (.g [] true (.int .i64 i23) :: (.g [] true (.int .i64 i24) :: (rep 25 []))))))))))) h Q (by kernel_rfl) (L9x12xaux mk0 C s1 n1 i5x0 i5x1 i5x2 i5x3 s6 n6 i7 s22 n22 i23 i24 h Q)
theorem J9x24xaux (M : Mk) (C : Cal) (s1 : SA) (n1 : Nat) (i5x0 : Int) (i5x1 : Int) (i5x2 : Int) (i5x3 : Int) (s6 : SA) (n6 : Nat) (i7 : Int) (s22 : SA) (n22 : Nat) (i23 : Int) (i24 : Int) (h : Heap) (Q : Kont R) : (forceK tk (.any :: (.g [] true (.sl s1 n1) :: (rep 3 (.box [(.int .i64 i5x0), (.int .i64 i5x1), (.int .i64 i5x2), (.int .i64 i5x3)] :: (.g [] true (.sl s6 n6) :: (.g [] true (.int .i64 i7) :: (rep 14 (.g [] true (.sl s22 n22) :: (.g [] true (.int .i64 i23) :: (.g [] true (.int .i64 i24) :: (rep 25 []))))))))))) fun e => (blockQ 1 (seqQ (evalE M C k9x18) (seqQ (evalE M C k9x17) (roundQ M C k9x12 29360354 162 Q)))) .normal ⟨e, h⟩) = (
  letK ((IntKind.wrap .i64 (i24 + 1)) : Int) fun i43 =>
  L9x12 M C s1 n1 i5x0 i5x1 i5x2 i5x3 s6 n6 i7 s22 n22 i23 i43 h Q
  ) := by kernel_rfl
theorem J9x24xeq (C : Cal) (s1 : SA) (n1 : Nat) (i5x0 : Int) (i5x1 : Int) (i5x2 : Int) (i5x3 : Int) (s6 : SA) (n6 : Nat) (i7 : Int) (s22 : SA) (n22 : Nat) (i23 : Int) (i24 : Int) (h : Heap) (Q : Kont R) : J9x24 mk0 C s1 n1 i5x0 i5x1 i5x2 i5x3 s6 n6 i7 s22 n22 i23 i24 h Q = (
  letK ((IntKind.wrap .i64 (i24 + 1)) : Int) fun i43 =>
  L9x12 mk0 C s1 n1 i5x0 i5x1 i5x2 i5x3 s6 n6 i7 s22 n22 i23 i43 h Q
  ) := join_eqn (blockQ 1 (seqQ (evalE mk0 C k9x18) (seqQ (evalE mk0 C k9x17) (roundQ mk0 C k9x12 29360354 162 Q)))) (.any :: (.g [] true (.sl s1 n1) :: (rep 3 (.box [(.int .i64 i5x0), (.int .i64 i5x1), (.int .i64 i5x2), (.int .i64 i5x3)] :: (.g [] true (.sl s6 n6) :: (.g [] true (.int .i64 i7) :: (rep 14 (.g [] true (.sl s22 n22) :: (.g [] true (.int .i64 i23) :: (.g [] true (.int .i64 i24) :: (rep 25 []))))))))))) h (J9x24xaux mk0 C s1 n1 i5x0 i5x1 i5x2 i5x3 s6 n6 i7 s22 n22 i23 i24 h Q)
theorem X9x12xe0 (M : Mk) (C : Cal) (s1 : SA) (n1 : Nat) (i5x0 : Int) (i5x1 : Int) (i5x2 : Int) (i5x3 : Int) (i7 : Int) (h : Heap) : Q9x12 M C (.exit 0) (S9xe0 s1 n1 i5x0 i5x1 i5x2 i5x3 i7 h) = (
  (C 25 [(.agg [(.int .i64 i5x0), (.int .i64 i5x1), (.int .i64 i5x2), (.int .i64 i5x3)]), (.agg [(.int .i64 i5x0), (.int .i64 i5x1), (.int .i64 i5x2), (.int .i64 i5x3)]), (.sl s1 n1)] h).bind fun r47 =>
  gI .i64 (some r47.1) true fun i47 =>
  letK ((decide ((i47 : Int) = i7)) : Bool) fun b49 =>
  some ((.bool b49), r47.2)
  ) := by kernel_rfl
end
end Go.Proofs.Ytecgpcpgklholaa.Z
