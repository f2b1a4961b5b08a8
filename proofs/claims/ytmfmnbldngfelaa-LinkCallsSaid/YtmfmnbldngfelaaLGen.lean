/- Parts of the proof, printed. -/
import Derived.Test.YtmfmnbldngfelaaRGen
import Derived.KernelRfl
set_option linter.unusedVariables false
set_option maxRecDepth 100000
namespace Go.Proofs.Ytmfmnbldngfelaa.I
open Go Go.Proofs.Ytmfmnbldngfelaa.Abs Go.Proofs
section
variable {R : Type} (M : Mk) (C : Cal)
def k53x5 : AC := .ret
def k53x4 : AC := .seq (.mask 16) k53x5
def k53x3 : AC := .mask 3
def k53x2 : AC := .seq (.cond (.tmp 10)
   (.seq (.ops false [
      ⟨(some 4), .move (.c (.bool false)), none, []⟩]) k53x4)
   (.skip)) k53x3
def k53x13 : AC := .exit 0
def k53x12 : AC := .mask 12291
def k53x20 : AC := .ret
def k53x19 : AC := .seq (.mask 16) k53x20
def k53x18 : AC := .mask 12291
def k53x17 : AC := .seq (.cond (.tmp 24)
   (.seq (.ops false [
      ⟨(some 4), .move (.c (.bool false)), none, []⟩]) k53x19)
   (.skip)) k53x18
def k53x16 : AC := .seq (.ops false [
    ⟨(some 16), .move (.tmp 0), none, []⟩,
    ⟨(some 17), .move (.tmp 5), none, []⟩,
    ⟨(some 18), .indexAddr 6 (.tmp 16) (.tmp 17), none, []⟩,
    ⟨(some 19), .load (.agg [(.int .i64), (.int .i64), (.int .i64), (.int .i64), (.int .i64), (.int .i64)]) (.tmp 18), none, []⟩,
    ⟨(some 20), .move (.tmp 1), none, []⟩,
    ⟨(some 21), .move (.tmp 5), none, []⟩,
    ⟨(some 22), .indexAddr 6 (.tmp 20) (.tmp 21), none, []⟩,
    ⟨(some 23), .load (.agg [(.int .i64), (.int .i64), (.int .i64), (.int .i64), (.int .i64), (.int .i64)]) (.tmp 22), none, []⟩,
    ⟨(some 24), .bin (.agg [false, false, false, false, false, false]) .neq (.tmp 19) (.tmp 23), none, []⟩]) k53x17
def k53x15 : AC := .mask 12291
def k53x14 : AC := .ops false [
    ⟨(some 25), .bin .other .add (.tmp 13) (.c (.int .i64 1)), none, []⟩,
    ⟨(some 13), .move (.tmp 25), none, []⟩]
def k53x11 : AC := .seq (.seq (.block 1 (.seq (.ops false [
     ⟨(some 15), .move (.tmp 13), none, []⟩,
     ⟨(some 5), .move (.tmp 15), none, []⟩]) k53x16)) k53x15) k53x14
def k53x10 : AC := .seq (.seq (.cond (.tmp 14)
   (.skip)
   (.seq (.mask 0) k53x13)) k53x12) k53x11
def k53x9 : AC := .seq (.ops false [
    ⟨(some 14), .bin .other .lss (.tmp 13) (.tmp 12), none, []⟩]) k53x10
def k53x8 : AC := .mask 0
def k53x7 : AC := .seq (.block 0 (.loop 12291 0 k53x9)) k53x8
def k53x22 : AC := .ret
def k53x21 : AC := .seq (.mask 16) k53x22
def k53x6 : AC := .seq (.ops false [
    ⟨(some 4), .move (.c (.bool true)), none, []⟩]) k53x21
def k53x1 : AC := .seq (.seq (.ops false [
    ⟨(some 11), .move (.tmp 0), none, []⟩,
    ⟨(some 12), .lenSl (.tmp 11), none, []⟩,
    ⟨(some 13), .move (.c (.int .i64 0)), none, []⟩]) k53x7) k53x6
def k53x0 : AC := .seq (.seq (.ops false [
    ⟨(some 6), .move (.tmp 0), none, []⟩,
    ⟨(some 7), .lenSl (.tmp 6), none, []⟩,
    ⟨(some 8), .move (.tmp 1), none, []⟩,
    ⟨(some 9), .lenSl (.tmp 8), none, []⟩,
    ⟨(some 10), .bin .other .neq (.tmp 7) (.tmp 9), none, []⟩]) k53x2) k53x1
/-- slices.Equal[[]provenance/api.RelaxItem,provenance/api.RelaxItem] -/
def c53 : AFn := ⟨26, [.tmp 4],
  .seq (.ops false [
    ⟨(some 4), .move (.c (.bool false)), none, []⟩]) k53x0⟩
def S53xr (b4 : Bool) (h : Heap) : St := ⟨(rep 4 (.g [] true (.bool b4) :: (rep 21 []))), h⟩
def S53xe0 (h : Heap) : St := ⟨(rep 26 []), h⟩
noncomputable def Q53x9 (M : Mk) (C : Cal) : Kont (AV × Heap) := (blockQ 0 (seqQ (evalE M C k53x8) (seqQ (evalE M C k53x6) (endQ [.tmp 4]))))
noncomputable def L53x9 (s0 : SA) (n0 : Nat) (s1 : SA) (n1 : Nat) (i12 : Int) (i13 : Int) (h : Heap) (Q : Kont R) : Option R := loopE (evalE M C k53x9) 12291 0 ⟨(.g [] true (.sl s0 n0) :: (.g [] true (.sl s1 n1) :: (rep 10 (.g [] true (.int .i64 i12) :: (.g [] true (.int .i64 i13) :: (rep 12 [])))))), h⟩ Q
theorem r53 (s0 : SA) (n0 : Nat) (s1 : SA) (n1 : Nat) (h : Heap) : runE M C c53 [(.sl s0 n0), (.sl s1 n1)] h = (
  letK ((!decide ((((n0 : Nat) : Int) : Int) = ((n1 : Nat) : Int))) : Bool) fun b10 =>
  if b10 = true then
    (
    some ((.bool false), h)
    )
  else
    (
    L53x9 M C s0 n0 s1 n1 ((n0 : Nat) : Int) 0 h (Q53x9 M C)
    )
  ) := by kernel_rfl
theorem cf53 : cFn Try.prog 53 = some c53 := by kernel_rfl
theorem e53 (s0 : SA) (n0 : Nat) (s1 : SA) (n1 : Nat) (h : Heap) : E 53 [(.sl s0 n0), (.sl s1 n1)] h = (
  letK ((!decide ((((n0 : Nat) : Int) : Int) = ((n1 : Nat) : Int))) : Bool) fun b10 =>
  if b10 = true then
    (
    some ((.bool false), h)
    )
  else
    (
    L53x9 mk0 E s0 n0 s1 n1 ((n0 : Nat) : Int) 0 h (Q53x9 mk0 E)
    )
  ) := (EV_eq (P := Try.prog) (T := T0) rfl cf53 [(.sl s0 n0), (.sl s1 n1)] h).trans (r53 mk0 E s0 n0 s1 n1 h)
theorem L53x9xaux (s0 : SA) (n0 : Nat) (s1 : SA) (n1 : Nat) (i12 : Int) (i13 : Int) (h : Heap) (Q : Kont R) : (restrF 12291 ⟨(.g [] true (.sl s0 n0) :: (.g [] true (.sl s1 n1) :: (rep 10 (.g [] true (.int .i64 i12) :: (.g [] true (.int .i64 i13) :: (rep 12 [])))))), h⟩ fun σ => evalE M C k53x9 σ (roundQ M C k53x9 12291 0 Q)) = (
  letK ((decide ((i13 : Int) < i12)) : Bool) fun b14 =>
  if b14 = true then
    (
    chk (true = true → (0 : Int) ≤ i13 ∧ (i13 : Int) < ((n0 : Nat) : Int)) <|
    atP (adP s0) true fun a18 =>
    gCells (ldN h (Ad.add a18 (Int.toNat i13 * 6)) 6) true fun l19 =>
    gI .i64 (l19[0]?) true fun i19x0 =>
    gI .i64 (l19[1]?) true fun i19x1 =>
    gI .i64 (l19[2]?) true fun i19x2 =>
    gI .i64 (l19[3]?) true fun i19x3 =>
    gI .i64 (l19[4]?) true fun i19x4 =>
    gI .i64 (l19[5]?) true fun i19x5 =>
    chk (true = true → (0 : Int) ≤ i13 ∧ (i13 : Int) < ((n1 : Nat) : Int)) <|
    atP (adP s1) true fun a22 =>
    gCells (ldN h (Ad.add a22 (Int.toNat i13 * 6)) 6) true fun l23 =>
    gI .i64 (l23[0]?) true fun i23x0 =>
    gI .i64 (l23[1]?) true fun i23x1 =>
    gI .i64 (l23[2]?) true fun i23x2 =>
    gI .i64 (l23[3]?) true fun i23x3 =>
    gI .i64 (l23[4]?) true fun i23x4 =>
    gI .i64 (l23[5]?) true fun i23x5 =>
    gb true (eqCells [false, false, false, false, false, false] [(.int .i64 i19x0), (.int .i64 i19x1), (.int .i64 i19x2), (.int .i64 i19x3), (.int .i64 i19x4), (.int .i64 i19x5)] [(.int .i64 i23x0), (.int .i64 i23x1), (.int .i64 i23x2), (.int .i64 i23x3), (.int .i64 i23x4), (.int .i64 i23x5)]) false fun b24 =>
    if (!b24) = true then
      (
      Q .ret (S53xr false h)
      )
    else
      (
      letK ((IntKind.wrap .i64 (i13 + 1)) : Int) fun i25 =>
      L53x9 M C s0 n0 s1 n1 i12 i25 h Q
      )
    )
  else
    (
    Q (.exit 0) (S53xe0 h)
    )
  ) := by kernel_rfl
theorem L53x9xeq (s0 : SA) (n0 : Nat) (s1 : SA) (n1 : Nat) (i12 : Int) (i13 : Int) (h : Heap) (Q : Kont R) : L53x9 mk0 C s0 n0 s1 n1 i12 i13 h Q = (
  letK ((decide ((i13 : Int) < i12)) : Bool) fun b14 =>
  if b14 = true then
    (
    chk (true = true → (0 : Int) ≤ i13 ∧ (i13 : Int) < ((n0 : Nat) : Int)) <|
    atP (adP s0) true fun a18 =>
    gCells (ldN h (Ad.add a18 (Int.toNat i13 * 6)) 6) true fun l19 =>
    gI .i64 (l19[0]?) true fun i19x0 =>
    gI .i64 (l19[1]?) true fun i19x1 =>
    gI .i64 (l19[2]?) true fun i19x2 =>
    gI .i64 (l19[3]?) true fun i19x3 =>
    gI .i64 (l19[4]?) true fun i19x4 =>
    gI .i64 (l19[5]?) true fun i19x5 =>
    chk (true = true → (0 : Int) ≤ i13 ∧ (i13 : Int) < ((n1 : Nat) : Int)) <|
    atP (adP s1) true fun a22 =>
    gCells (ldN h (Ad.add a22 (Int.toNat i13 * 6)) 6) true fun l23 =>
    gI .i64 (l23[0]?) true fun i23x0 =>
    gI .i64 (l23[1]?) true fun i23x1 =>
    gI .i64 (l23[2]?) true fun i23x2 =>
    gI .i64 (l23[3]?) true fun i23x3 =>
    gI .i64 (l23[4]?) true fun i23x4 =>
    gI .i64 (l23[5]?) true fun i23x5 =>
    gb true (eqCells [false, false, false, false, false, false] [(.int .i64 i19x0), (.int .i64 i19x1), (.int .i64 i19x2), (.int .i64 i19x3), (.int .i64 i19x4), (.int .i64 i19x5)] [(.int .i64 i23x0), (.int .i64 i23x1), (.int .i64 i23x2), (.int .i64 i23x3), (.int .i64 i23x4), (.int .i64 i23x5)]) false fun b24 =>
    if (!b24) = true then
      (
      Q .ret (S53xr false h)
      )
    else
      (
      letK ((IntKind.wrap .i64 (i13 + 1)) : Int) fun i25 =>
      L53x9 mk0 C s0 n0 s1 n1 i12 i25 h Q
      )
    )
  else
    (
    Q (.exit 0) (S53xe0 h)
    )
  ) := loop_eqn C k53x9 12291 0 (.g [] true (.sl s0 n0) :: (.g [] true (.sl s1 n1) :: (rep 10 (.g [] true (.int .i64 i12) :: (.g [] true (.int .i64 i13) :: (rep 12 [])))))) h Q (by kernel_rfl) (L53x9xaux mk0 C s0 n0 s1 n1 i12 i13 h Q)
theorem X53x9xr (M : Mk) (C : Cal) (b4 : Bool) (h : Heap) : Q53x9 M C .ret (S53xr b4 h) = (
  some ((.bool b4), h)
  ) := by kernel_rfl
theorem X53x9xe0 (M : Mk) (C : Cal) (h : Heap) : Q53x9 M C (.exit 0) (S53xe0 h) = (
  some ((.bool true), h)
  ) := by kernel_rfl
def k54x5 : AC := .ret
def k54x4 : AC := .seq (.mask 64) k54x5
def k54x3 : AC := .mask 7
def k54x2 : AC := .seq (.cond (.tmp 14)
   (.seq (.ops false [
      ⟨(some 6), .move (.c (.bool false)), none, []⟩]) k54x4)
   (.skip)) k54x3
def k54x13 : AC := .exit 0
def k54x12 : AC := .mask 229382
def k54x21 : AC := .ret
def k54x20 : AC := .seq (.mask 64) k54x21
def k54x19 : AC := .mask 229382
def k54x18 : AC := .seq (.cond (.tmp 30)
   (.seq (.ops false [
      ⟨(some 6), .move (.c (.bool false)), none, []⟩]) k54x20)
   (.skip)) k54x19
def k54x17 : AC := .seq (.ops false [
    ⟨(some 26), .move (.tmp 2), none, []⟩,
    ⟨(some 27), .load (.agg [(.int .i64), .bool, .sl, (.int .i64)]) (.tmp 8), none, []⟩,
    ⟨(some 28), .load (.agg [(.int .i64), .bool, .sl, (.int .i64)]) (.tmp 9), none, []⟩,
    ⟨(some 29), .callV (.tmp 26) [(.tmp 27), (.tmp 28)] [(.cell .bool)] (.bool false), none, []⟩,
    ⟨(some 30), .un .not (.tmp 29), none, []⟩]) k54x18
def k54x16 : AC := .seq (.ops false [
    ⟨(some 22), .move (.tmp 1), none, []⟩,
    ⟨(some 23), .move (.tmp 7), none, []⟩,
    ⟨(some 24), .indexAddr 4 (.tmp 22) (.tmp 23), none, []⟩,
    ⟨(some 25), .load (.agg [(.int .i64), .bool, .sl, (.int .i64)]) (.tmp 24), none, []⟩,
    ⟨(some 9), .allocL [(.int .i64 0), (.bool false), (.sl .nil 0), (.int .i64 0)], none, []⟩,
    ⟨none, .store 4 (.tmp 9) (.tmp 25), none, []⟩]) k54x17
def k54x15 : AC := .mask 229382
def k54x14 : AC := .ops false [
    ⟨(some 31), .bin .other .add (.tmp 17) (.c (.int .i64 1)), none, []⟩,
    ⟨(some 17), .move (.tmp 31), none, []⟩]
def k54x11 : AC := .seq (.seq (.block 1 (.seq (.ops false [
     ⟨(some 19), .move (.tmp 17), none, []⟩,
     ⟨(some 20), .indexAddr 4 (.tmp 15) (.tmp 17), none, []⟩,
     ⟨(some 21), .load (.agg [(.int .i64), .bool, .sl, (.int .i64)]) (.tmp 20), none, []⟩,
     ⟨(some 8), .allocL [(.int .i64 0), (.bool false), (.sl .nil 0), (.int .i64 0)], none, []⟩,
     ⟨(some 7), .move (.tmp 19), none, []⟩,
     ⟨none, .store 4 (.tmp 8) (.tmp 21), none, []⟩]) k54x16)) k54x15) k54x14
def k54x10 : AC := .seq (.seq (.cond (.tmp 18)
   (.skip)
   (.seq (.mask 0) k54x13)) k54x12) k54x11
def k54x9 : AC := .seq (.ops false [
    ⟨(some 18), .bin .other .lss (.tmp 17) (.tmp 16), none, []⟩]) k54x10
def k54x8 : AC := .mask 0
def k54x7 : AC := .seq (.block 0 (.loop 229382 0 k54x9)) k54x8
def k54x23 : AC := .ret
def k54x22 : AC := .seq (.mask 64) k54x23
def k54x6 : AC := .seq (.ops false [
    ⟨(some 6), .move (.c (.bool true)), none, []⟩]) k54x22
def k54x1 : AC := .seq (.seq (.ops false [
    ⟨(some 15), .move (.tmp 0), none, []⟩,
    ⟨(some 16), .lenSl (.tmp 15), none, []⟩,
    ⟨(some 17), .move (.c (.int .i64 0)), none, []⟩]) k54x7) k54x6
def k54x0 : AC := .seq (.seq (.ops false [
    ⟨(some 10), .move (.tmp 0), none, []⟩,
    ⟨(some 11), .lenSl (.tmp 10), none, []⟩,
    ⟨(some 12), .move (.tmp 1), none, []⟩,
    ⟨(some 13), .lenSl (.tmp 12), none, []⟩,
    ⟨(some 14), .bin .other .neq (.tmp 11) (.tmp 13), none, []⟩]) k54x2) k54x1
/-- slices.EqualFunc[[]provenance/api.LinkMap,[]provenance/api.LinkMap,provenance/api.LinkMap,provenance/api.LinkMap] -/
def c54 : AFn := ⟨32, [.tmp 6],
  .seq (.ops false [
    ⟨(some 6), .move (.c (.bool false)), none, []⟩]) k54x0⟩
def S54xr (b6 : Bool) (h : Heap) : St := ⟨(rep 6 (.g [] true (.bool b6) :: (rep 25 []))), h⟩
def S54xe0 (h : Heap) : St := ⟨(rep 32 []), h⟩
noncomputable def Q54x9 (M : Mk) (C : Cal) : Kont (AV × Heap) := (blockQ 0 (seqQ (evalE M C k54x8) (seqQ (evalE M C k54x6) (endQ [.tmp 6]))))
noncomputable def L54x9 (s1 : SA) (n1 : Nat) (v2 : AV) (s15 : SA) (n15 : Nat) (i16 : Int) (i17 : Int) (h : Heap) (Q : Kont R) : Option R := loopE (evalE M C k54x9) 229382 0 ⟨(.any :: (.g [] true (.sl s1 n1) :: (.g [] true v2 :: (rep 12 (.g [] true (.sl s15 n15) :: (.g [] true (.int .i64 i16) :: (.g [] true (.int .i64 i17) :: (rep 14 [])))))))), h⟩ Q
theorem r54 (s0 : SA) (n0 : Nat) (s1 : SA) (n1 : Nat) (v2 : AV) (h : Heap) : runE M C c54 [(.sl s0 n0), (.sl s1 n1), v2] h = (
  letK ((!decide ((((n0 : Nat) : Int) : Int) = ((n1 : Nat) : Int))) : Bool) fun b14 =>
  if b14 = true then
    (
    some ((.bool false), h)
    )
  else
    (
    L54x9 M C s1 n1 v2 s0 n0 ((n0 : Nat) : Int) 0 h (Q54x9 M C)
    )
  ) := by kernel_rfl
theorem cf54 : cFn Try.prog 54 = some c54 := by kernel_rfl
theorem e54 (s0 : SA) (n0 : Nat) (s1 : SA) (n1 : Nat) (v2 : AV) (h : Heap) : E 54 [(.sl s0 n0), (.sl s1 n1), v2] h = (
  letK ((!decide ((((n0 : Nat) : Int) : Int) = ((n1 : Nat) : Int))) : Bool) fun b14 =>
  if b14 = true then
    (
    some ((.bool false), h)
    )
  else
    (
    L54x9 mk0 E s1 n1 v2 s0 n0 ((n0 : Nat) : Int) 0 h (Q54x9 mk0 E)
    )
  ) := (EV_eq (P := Try.prog) (T := T0) rfl cf54 [(.sl s0 n0), (.sl s1 n1), v2] h).trans (r54 mk0 E s0 n0 s1 n1 v2 h)
theorem L54x9xaux (s1 : SA) (n1 : Nat) (v2 : AV) (s15 : SA) (n15 : Nat) (i16 : Int) (i17 : Int) (h : Heap) (Q : Kont R) : (restrF 229382 ⟨(.any :: (.g [] true (.sl s1 n1) :: (.g [] true v2 :: (rep 12 (.g [] true (.sl s15 n15) :: (.g [] true (.int .i64 i16) :: (.g [] true (.int .i64 i17) :: (rep 14 [])))))))), h⟩ fun σ => evalE M C k54x9 σ (roundQ M C k54x9 229382 0 Q)) = (
  letK ((decide ((i17 : Int) < i16)) : Bool) fun b18 =>
  if b18 = true then
    (
    chk (true = true → (0 : Int) ≤ i17 ∧ (i17 : Int) < ((n15 : Nat) : Int)) <|
    atP (adP s15) true fun a20 =>
    gCells (ldN h (Ad.add a20 (Int.toNat i17 * 4)) 4) true fun l21 =>
    gI .i64 (l21[0]?) true fun i21x0 =>
    gB (l21[1]?) true fun b21x1 =>
    gL (l21[2]?) true fun s21x2 n21x2 =>
    gI .i64 (l21[3]?) true fun i21x3 =>
    chk (true = true → (0 : Int) ≤ i17 ∧ (i17 : Int) < ((n1 : Nat) : Int)) <|
    atP (adP s1) true fun a24 =>
    gCells (ldN h (Ad.add a24 (Int.toNat i17 * 4)) 4) true fun l25 =>
    gI .i64 (l25[0]?) true fun i25x0 =>
    gB (l25[1]?) true fun b25x1 =>
    gL (l25[2]?) true fun s25x2 n25x2 =>
    gI .i64 (l25[3]?) true fun i25x3 =>
    fnK v2 fun f29 a29 c29 =>
    (C f29 (a29 ++ [(.agg [(.int .i64 i21x0), (.bool b21x1), (.sl s21x2 n21x2), (.int .i64 i21x3)]), (.agg [(.int .i64 i25x0), (.bool b25x1), (.sl s25x2 n25x2), (.int .i64 i25x3)])] ++ c29) h).bind fun r29 =>
    gB (some r29.1) true fun b29 =>
    if (!b29) = true then
      (
      Q .ret (S54xr false r29.2)
      )
    else
      (
      letK ((IntKind.wrap .i64 (i17 + 1)) : Int) fun i31 =>
      L54x9 M C s1 n1 v2 s15 n15 i16 i31 r29.2 Q
      )
    )
  else
    (
    Q (.exit 0) (S54xe0 h)
    )
  ) := by kernel_rfl
theorem L54x9xeq (s1 : SA) (n1 : Nat) (v2 : AV) (s15 : SA) (n15 : Nat) (i16 : Int) (i17 : Int) (h : Heap) (Q : Kont R) : L54x9 mk0 C s1 n1 v2 s15 n15 i16 i17 h Q = (
  letK ((decide ((i17 : Int) < i16)) : Bool) fun b18 =>
  if b18 = true then
    (
    chk (true = true → (0 : Int) ≤ i17 ∧ (i17 : Int) < ((n15 : Nat) : Int)) <|
    atP (adP s15) true fun a20 =>
    gCells (ldN h (Ad.add a20 (Int.toNat i17 * 4)) 4) true fun l21 =>
    gI .i64 (l21[0]?) true fun i21x0 =>
    gB (l21[1]?) true fun b21x1 =>
    gL (l21[2]?) true fun s21x2 n21x2 =>
    gI .i64 (l21[3]?) true fun i21x3 =>
    chk (true = true → (0 : Int) ≤ i17 ∧ (i17 : Int) < ((n1 : Nat) : Int)) <|
    atP (adP s1) true fun a24 =>
    gCells (ldN h (Ad.add a24 (Int.toNat i17 * 4)) 4) true fun l25 =>
    gI .i64 (l25[0]?) true fun i25x0 =>
    gB (l25[1]?) true fun b25x1 =>
    gL (l25[2]?) true fun s25x2 n25x2 =>
    gI .i64 (l25[3]?) true fun i25x3 =>
    fnK v2 fun f29 a29 c29 =>
    (C f29 (a29 ++ [(.agg [(.int .i64 i21x0), (.bool b21x1), (.sl s21x2 n21x2), (.int .i64 i21x3)]), (.agg [(.int .i64 i25x0), (.bool b25x1), (.sl s25x2 n25x2), (.int .i64 i25x3)])] ++ c29) h).bind fun r29 =>
    gB (some r29.1) true fun b29 =>
    if (!b29) = true then
      (
      Q .ret (S54xr false r29.2)
      )
    else
      (
      letK ((IntKind.wrap .i64 (i17 + 1)) : Int) fun i31 =>
      L54x9 mk0 C s1 n1 v2 s15 n15 i16 i31 r29.2 Q
      )
    )
  else
    (
    Q (.exit 0) (S54xe0 h)
    )
  ) := loop_eqn C k54x9 229382 0 (.any :: (.g [] true (.sl s1 n1) :: (.g [] true v2 :: (rep 12 (.g [] true (.sl s15 n15) :: (.g [] true (.int .i64 i16) :: (.g [] true (.int .i64 i17) :: (rep 14 [])))))))) h Q (by kernel_rfl) (L54x9xaux mk0 C s1 n1 v2 s15 n15 i16 i17 h Q)
theorem X54x9xr (M : Mk) (C : Cal) (b6 : Bool) (h : Heap) : Q54x9 M C .ret (S54xr b6 h) = (
  some ((.bool b6), h)
  ) := by kernel_rfl
theorem X54x9xe0 (M : Mk) (C : Cal) (h : Heap) : Q54x9 M C (.exit 0) (S54xe0 h) = (
  some ((.bool true), h)
  ) := by kernel_rfl
def k55x2 : AC := .ret
def k55x1 : AC := .seq (.mask 16) k55x2
def k55x0 : AC := .seq (.ops true [
    ⟨(some 5), .fieldAddr 0 (.tmp 2), none, []⟩,
    ⟨(some 6), .load (.cell (.int .i64)) (.tmp 5), none, []⟩,
    ⟨(some 7), .fieldAddr 0 (.tmp 3), none, []⟩,
    ⟨(some 8), .load (.cell (.int .i64)) (.tmp 7), none, []⟩,
    ⟨(some 9), .bin .other .eql (.tmp 6) (.tmp 8), none, []⟩,
    ⟨(some 10), .move (.tmp 9), none, []⟩,
    ⟨(some 11), .fieldAddr 1 (.tmp 2), (some (10, true)), []⟩,
    ⟨(some 12), .load (.cell .bool) (.tmp 11), (some (10, true)), []⟩,
    ⟨(some 13), .fieldAddr 1 (.tmp 3), (some (10, true)), []⟩,
    ⟨(some 14), .load (.cell .bool) (.tmp 13), (some (10, true)), []⟩,
    ⟨(some 15), .bin .bool .eql (.tmp 12) (.tmp 14), (some (10, true)), []⟩,
    ⟨(some 16), .pick (.tmp 10) (.tmp 15) (.c (.bool false)), none, []⟩,
    ⟨(some 17), .move (.tmp 16), none, []⟩,
    ⟨(some 18), .fieldAddr 3 (.tmp 2), (some (17, true)), []⟩,
    ⟨(some 19), .load (.cell (.int .i64)) (.tmp 18), (some (17, true)), []⟩,
    ⟨(some 20), .fieldAddr 3 (.tmp 3), (some (17, true)), []⟩,
    ⟨(some 21), .load (.cell (.int .i64)) (.tmp 20), (some (17, true)), []⟩,
    ⟨(some 22), .bin .other .eql (.tmp 19) (.tmp 21), (some (17, true)), []⟩,
    ⟨(some 23), .pick (.tmp 17) (.tmp 22) (.c (.bool false)), none, []⟩,
    ⟨(some 24), .move (.tmp 23), none, []⟩,
    ⟨(some 25), .fieldAddr 2 (.tmp 2), (some (24, true)), []⟩,
    ⟨(some 26), .load (.cell .sl) (.tmp 25), (some (24, true)), []⟩,
    ⟨(some 27), .fieldAddr 2 (.tmp 3), (some (24, true)), []⟩,
    ⟨(some 28), .load (.cell .sl) (.tmp 27), (some (24, true)), []⟩,
    ⟨(some 29), .call 26 [(.tmp 26), (.tmp 28)] [(.cell .bool)] (.bool false), (some (24, true)), []⟩,
    ⟨(some 30), .pick (.tmp 24) (.tmp 29) (.c (.bool false)), none, []⟩,
    ⟨(some 4), .move (.tmp 30), none, []⟩]) k55x1
/-- provenance/link.sameMap -/
def c55 : AFn := ⟨31, [.tmp 4],
  .seq (.ops false [
    ⟨(some 2), .boxL (.tmp 0), none, []⟩,
    ⟨(some 3), .boxL (.tmp 1), none, []⟩,
    ⟨(some 4), .move (.c (.bool false)), none, []⟩]) k55x0⟩
theorem r55 (i0x0 : Int) (b0x1 : Bool) (s0x2 : SA) (n0x2 : Nat) (i0x3 : Int) (i1x0 : Int) (b1x1 : Bool) (s1x2 : SA) (n1x2 : Nat) (i1x3 : Int) (h : Heap) : runE M C c55 [(.agg [(.int .i64 i0x0), (.bool b0x1), (.sl s0x2 n0x2), (.int .i64 i0x3)]), (.agg [(.int .i64 i1x0), (.bool b1x1), (.sl s1x2 n1x2), (.int .i64 i1x3)])] h = (
  letK ((decide ((i0x0 : Int) = i1x0)) : Bool) fun b9 =>
  gB (some (.bool b0x1)) b9 fun b12 =>
  gB (some (.bool b1x1)) b9 fun b14 =>
  letK ((if b9 = true then (b12 == b14) else false) : Bool) fun b16 =>
  gI .i64 (some (.int .i64 i0x3)) b16 fun i19 =>
  gI .i64 (some (.int .i64 i1x3)) b16 fun i21 =>
  letK ((decide ((i19 : Int) = i21)) : Bool) fun b22 =>
  letK ((if b16 = true then b22 else false) : Bool) fun b23 =>
  gL (some (.sl s0x2 n0x2)) b23 fun s26 n26 =>
  gL (some (.sl s1x2 n1x2)) b23 fun s28 n28 =>
  (callO b23 (C 26 [(.sl s26 n26), (.sl s28 n28)] h) (.bool false) h).bind fun r29 =>
  gB (some r29.1) b23 fun b29 =>
  letK ((if b23 = true then b29 else false) : Bool) fun b30 =>
  some ((.bool b30), r29.2)
  ) := by kernel_rfl
theorem cf55 : cFn Try.prog 55 = some c55 := by kernel_rfl
theorem e55 (i0x0 : Int) (b0x1 : Bool) (s0x2 : SA) (n0x2 : Nat) (i0x3 : Int) (i1x0 : Int) (b1x1 : Bool) (s1x2 : SA) (n1x2 : Nat) (i1x3 : Int) (h : Heap) : E 55 [(.agg [(.int .i64 i0x0), (.bool b0x1), (.sl s0x2 n0x2), (.int .i64 i0x3)]), (.agg [(.int .i64 i1x0), (.bool b1x1), (.sl s1x2 n1x2), (.int .i64 i1x3)])] h = (
  letK ((decide ((i0x0 : Int) = i1x0)) : Bool) fun b9 =>
  gB (some (.bool b0x1)) b9 fun b12 =>
  gB (some (.bool b1x1)) b9 fun b14 =>
  letK ((if b9 = true then (b12 == b14) else false) : Bool) fun b16 =>
  gI .i64 (some (.int .i64 i0x3)) b16 fun i19 =>
  gI .i64 (some (.int .i64 i1x3)) b16 fun i21 =>
  letK ((decide ((i19 : Int) = i21)) : Bool) fun b22 =>
  letK ((if b16 = true then b22 else false) : Bool) fun b23 =>
  gL (some (.sl s0x2 n0x2)) b23 fun s26 n26 =>
  gL (some (.sl s1x2 n1x2)) b23 fun s28 n28 =>
  (callO b23 (E 26 [(.sl s26 n26), (.sl s28 n28)] h) (.bool false) h).bind fun r29 =>
  gB (some r29.1) b23 fun b29 =>
  letK ((if b23 = true then b29 else false) : Bool) fun b30 =>
  some ((.bool b30), r29.2)
  ) := (EV_eq (P := Try.prog) (T := T0) rfl cf55 [(.agg [(.int .i64 i0x0), (.bool b0x1), (.sl s0x2 n0x2), (.int .i64 i0x3)]), (.agg [(.int .i64 i1x0), (.bool b1x1), (.sl s1x2 n1x2), (.int .i64 i1x3)])] h).trans (r55 mk0 E i0x0 b0x1 s0x2 n0x2 i0x3 i1x0 b1x1 s1x2 n1x2 i1x3 h)
def k56x5 : AC := .ret
def k56x4 : AC := .seq (.mask 64) k56x5
def k56x3 : AC := .mask 7
def k56x2 : AC := .seq (.cond (.tmp 14)
   (.seq (.ops false [
      ⟨(some 6), .move (.c (.bool false)), none, []⟩]) k56x4)
   (.skip)) k56x3
def k56x13 : AC := .exit 0
def k56x12 : AC := .mask 229382
def k56x21 : AC := .ret
def k56x20 : AC := .seq (.mask 64) k56x21
def k56x19 : AC := .mask 229382
def k56x18 : AC := .seq (.cond (.tmp 30)
   (.seq (.ops false [
      ⟨(some 6), .move (.c (.bool false)), none, []⟩]) k56x20)
   (.skip)) k56x19
def k56x17 : AC := .seq (.ops false [
    ⟨(some 26), .move (.tmp 2), none, []⟩,
    ⟨(some 27), .load (.agg [(.int .i64), (.int .i64)]) (.tmp 8), none, []⟩,
    ⟨(some 28), .load (.agg [(.int .i64), (.int .i64)]) (.tmp 9), none, []⟩,
    ⟨(some 29), .callV (.tmp 26) [(.tmp 27), (.tmp 28)] [(.cell .bool)] (.bool false), none, []⟩,
    ⟨(some 30), .un .not (.tmp 29), none, []⟩]) k56x18
def k56x16 : AC := .seq (.ops false [
    ⟨(some 22), .move (.tmp 1), none, []⟩,
    ⟨(some 23), .move (.tmp 7), none, []⟩,
    ⟨(some 24), .indexAddr 2 (.tmp 22) (.tmp 23), none, []⟩,
    ⟨(some 25), .load (.agg [(.int .i64), (.int .i64)]) (.tmp 24), none, []⟩,
    ⟨(some 9), .allocL [(.int .i64 0), (.int .i64 0)], none, []⟩,
    ⟨none, .store 2 (.tmp 9) (.tmp 25), none, []⟩]) k56x17
def k56x15 : AC := .mask 229382
def k56x14 : AC := .ops false [
    ⟨(some 31), .bin .other .add (.tmp 17) (.c (.int .i64 1)), none, []⟩,
    ⟨(some 17), .move (.tmp 31), none, []⟩]
def k56x11 : AC := .seq (.seq (.block 1 (.seq (.ops false [
     ⟨(some 19), .move (.tmp 17), none, []⟩,
     ⟨(some 20), .indexAddr 2 (.tmp 15) (.tmp 17), none, []⟩,
     ⟨(some 21), .load (.agg [(.int .i64), (.int .i64)]) (.tmp 20), none, []⟩,
     ⟨(some 8), .allocL [(.int .i64 0), (.int .i64 0)], none, []⟩,
     ⟨(some 7), .move (.tmp 19), none, []⟩,
     ⟨none, .store 2 (.tmp 8) (.tmp 21), none, []⟩]) k56x16)) k56x15) k56x14
def k56x10 : AC := .seq (.seq (.cond (.tmp 18)
   (.skip)
   (.seq (.mask 0) k56x13)) k56x12) k56x11
def k56x9 : AC := .seq (.ops false [
    ⟨(some 18), .bin .other .lss (.tmp 17) (.tmp 16), none, []⟩]) k56x10
def k56x8 : AC := .mask 0
def k56x7 : AC := .seq (.block 0 (.loop 229382 0 k56x9)) k56x8
def k56x23 : AC := .ret
def k56x22 : AC := .seq (.mask 64) k56x23
def k56x6 : AC := .seq (.ops false [
    ⟨(some 6), .move (.c (.bool true)), none, []⟩]) k56x22
def k56x1 : AC := .seq (.seq (.ops false [
    ⟨(some 15), .move (.tmp 0), none, []⟩,
    ⟨(some 16), .lenSl (.tmp 15), none, []⟩,
    ⟨(some 17), .move (.c (.int .i64 0)), none, []⟩]) k56x7) k56x6
def k56x0 : AC := .seq (.seq (.ops false [
    ⟨(some 10), .move (.tmp 0), none, []⟩,
    ⟨(some 11), .lenSl (.tmp 10), none, []⟩,
    ⟨(some 12), .move (.tmp 1), none, []⟩,
    ⟨(some 13), .lenSl (.tmp 12), none, []⟩,
    ⟨(some 14), .bin .other .neq (.tmp 11) (.tmp 13), none, []⟩]) k56x2) k56x1
/-- slices.EqualFunc[[]provenance/api.LinkCall,[]provenance/api.LinkCall,provenance/api.LinkCall,provenance/api.LinkCall] -/
def c56 : AFn := ⟨32, [.tmp 6],
  .seq (.ops false [
    ⟨(some 6), .move (.c (.bool false)), none, []⟩]) k56x0⟩
def S56xr (b6 : Bool) (h : Heap) : St := ⟨(rep 6 (.g [] true (.bool b6) :: (rep 25 []))), h⟩
def S56xe0 (h : Heap) : St := ⟨(rep 32 []), h⟩
noncomputable def Q56x9 (M : Mk) (C : Cal) : Kont (AV × Heap) := (blockQ 0 (seqQ (evalE M C k56x8) (seqQ (evalE M C k56x6) (endQ [.tmp 6]))))
noncomputable def L56x9 (s1 : SA) (n1 : Nat) (v2 : AV) (s15 : SA) (n15 : Nat) (i16 : Int) (i17 : Int) (h : Heap) (Q : Kont R) : Option R := loopE (evalE M C k56x9) 229382 0 ⟨(.any :: (.g [] true (.sl s1 n1) :: (.g [] true v2 :: (rep 12 (.g [] true (.sl s15 n15) :: (.g [] true (.int .i64 i16) :: (.g [] true (.int .i64 i17) :: (rep 14 [])))))))), h⟩ Q
theorem r56 (s0 : SA) (n0 : Nat) (s1 : SA) (n1 : Nat) (v2 : AV) (h : Heap) : runE M C c56 [(.sl s0 n0), (.sl s1 n1), v2] h = (
  letK ((!decide ((((n0 : Nat) : Int) : Int) = ((n1 : Nat) : Int))) : Bool) fun b14 =>
  if b14 = true then
    (
    some ((.bool false), h)
    )
  else
    (
    L56x9 M C s1 n1 v2 s0 n0 ((n0 : Nat) : Int) 0 h (Q56x9 M C)
    )
  ) := by kernel_rfl
theorem cf56 : cFn Try.prog 56 = some c56 := by kernel_rfl
theorem e56 (s0 : SA) (n0 : Nat) (s1 : SA) (n1 : Nat) (v2 : AV) (h : Heap) : E 56 [(.sl s0 n0), (.sl s1 n1), v2] h = (
  letK ((!decide ((((n0 : Nat) : Int) : Int) = ((n1 : Nat) : Int))) : Bool) fun b14 =>
  if b14 = true then
    (
    some ((.bool false), h)
    )
  else
    (
    L56x9 mk0 E s1 n1 v2 s0 n0 ((n0 : Nat) : Int) 0 h (Q56x9 mk0 E)
    )
  ) := (EV_eq (P := Try.prog) (T := T0) rfl cf56 [(.sl s0 n0), (.sl s1 n1), v2] h).trans (r56 mk0 E s0 n0 s1 n1 v2 h)
theorem L56x9xaux (s1 : SA) (n1 : Nat) (v2 : AV) (s15 : SA) (n15 : Nat) (i16 : Int) (i17 : Int) (h : Heap) (Q : Kont R) : (restrF 229382 ⟨(.any :: (.g [] true (.sl s1 n1) :: (.g [] true v2 :: (rep 12 (.g [] true (.sl s15 n15) :: (.g [] true (.int .i64 i16) :: (.g [] true (.int .i64 i17) :: (rep 14 [])))))))), h⟩ fun σ => evalE M C k56x9 σ (roundQ M C k56x9 229382 0 Q)) = (
  letK ((decide ((i17 : Int) < i16)) : Bool) fun b18 =>
  if b18 = true then
    (
    chk (true = true → (0 : Int) ≤ i17 ∧ (i17 : Int) < ((n15 : Nat) : Int)) <|
    atP (adP s15) true fun a20 =>
    gCells (ldN h (Ad.add a20 (Int.toNat i17 * 2)) 2) true fun l21 =>
    gI .i64 (l21[0]?) true fun i21x0 =>
    gI .i64 (l21[1]?) true fun i21x1 =>
    chk (true = true → (0 : Int) ≤ i17 ∧ (i17 : Int) < ((n1 : Nat) : Int)) <|
    atP (adP s1) true fun a24 =>
    gCells (ldN h (Ad.add a24 (Int.toNat i17 * 2)) 2) true fun l25 =>
    gI .i64 (l25[0]?) true fun i25x0 =>
    gI .i64 (l25[1]?) true fun i25x1 =>
    fnK v2 fun f29 a29 c29 =>
    (C f29 (a29 ++ [(.agg [(.int .i64 i21x0), (.int .i64 i21x1)]), (.agg [(.int .i64 i25x0), (.int .i64 i25x1)])] ++ c29) h).bind fun r29 =>
    gB (some r29.1) true fun b29 =>
    if (!b29) = true then
      (
      Q .ret (S56xr false r29.2)
      )
    else
      (
      letK ((IntKind.wrap .i64 (i17 + 1)) : Int) fun i31 =>
      L56x9 M C s1 n1 v2 s15 n15 i16 i31 r29.2 Q
      )
    )
  else
    (
    Q (.exit 0) (S56xe0 h)
    )
  ) := by kernel_rfl
theorem L56x9xeq (s1 : SA) (n1 : Nat) (v2 : AV) (s15 : SA) (n15 : Nat) (i16 : Int) (i17 : Int) (h : Heap) (Q : Kont R) : L56x9 mk0 C s1 n1 v2 s15 n15 i16 i17 h Q = (
  letK ((decide ((i17 : Int) < i16)) : Bool) fun b18 =>
  if b18 = true then
    (
    chk (true = true → (0 : Int) ≤ i17 ∧ (i17 : Int) < ((n15 : Nat) : Int)) <|
    atP (adP s15) true fun a20 =>
    gCells (ldN h (Ad.add a20 (Int.toNat i17 * 2)) 2) true fun l21 =>
    gI .i64 (l21[0]?) true fun i21x0 =>
    gI .i64 (l21[1]?) true fun i21x1 =>
    chk (true = true → (0 : Int) ≤ i17 ∧ (i17 : Int) < ((n1 : Nat) : Int)) <|
    atP (adP s1) true fun a24 =>
    gCells (ldN h (Ad.add a24 (Int.toNat i17 * 2)) 2) true fun l25 =>
    gI .i64 (l25[0]?) true fun i25x0 =>
    gI .i64 (l25[1]?) true fun i25x1 =>
    fnK v2 fun f29 a29 c29 =>
    (C f29 (a29 ++ [(.agg [(.int .i64 i21x0), (.int .i64 i21x1)]), (.agg [(.int .i64 i25x0), (.int .i64 i25x1)])] ++ c29) h).bind fun r29 =>
    gB (some r29.1) true fun b29 =>
    if (!b29) = true then
      (
      Q .ret (S56xr false r29.2)
      )
    else
      (
      letK ((IntKind.wrap .i64 (i17 + 1)) : Int) fun i31 =>
      L56x9 mk0 C s1 n1 v2 s15 n15 i16 i31 r29.2 Q
      )
    )
  else
    (
    Q (.exit 0) (S56xe0 h)
    )
  ) := loop_eqn C k56x9 229382 0 (.any :: (.g [] true (.sl s1 n1) :: (.g [] true v2 :: (rep 12 (.g [] true (.sl s15 n15) :: (.g [] true (.int .i64 i16) :: (.g [] true (.int .i64 i17) :: (rep 14 [])))))))) h Q (by kernel_rfl) (L56x9xaux mk0 C s1 n1 v2 s15 n15 i16 i17 h Q)
theorem X56x9xr (M : Mk) (C : Cal) (b6 : Bool) (h : Heap) : Q56x9 M C .ret (S56xr b6 h) = (
  some ((.bool b6), h)
  ) := by kernel_rfl
theorem X56x9xe0 (M : Mk) (C : Cal) (h : Heap) : Q56x9 M C (.exit 0) (S56xe0 h) = (
  some ((.bool true), h)
  ) := by kernel_rfl
def k57x2 : AC := .ret
def k57x1 : AC := .seq (.mask 32) k57x2
def k57x0 : AC := .seq (.ops true [
    ⟨(some 6), .fieldAddr 0 (.tmp 3), none, []⟩,
    ⟨(some 7), .load (.cell (.int .i64)) (.tmp 6), none, []⟩,
    ⟨(some 8), .fieldAddr 0 (.tmp 4), none, []⟩,
    ⟨(some 9), .load (.cell (.int .i64)) (.tmp 8), none, []⟩,
    ⟨(some 10), .bin .other .eql (.tmp 7) (.tmp 9), none, []⟩,
    ⟨(some 11), .move (.tmp 10), none, []⟩,
    ⟨(some 12), .load (.cell .sl) (.tmp 2), (some (11, true)), []⟩,
    ⟨(some 13), .fieldAddr 1 (.tmp 3), (some (11, true)), []⟩,
    ⟨(some 14), .load (.cell (.int .i64)) (.tmp 13), (some (11, true)), []⟩,
    ⟨(some 15), .indexAddr 1 (.tmp 12) (.tmp 14), (some (11, true)), []⟩,
    ⟨(some 16), .load (.cell (.int .i64)) (.tmp 15), (some (11, true)), []⟩,
    ⟨(some 17), .load (.cell .sl) (.tmp 2), (some (11, true)), []⟩,
    ⟨(some 18), .fieldAddr 1 (.tmp 4), (some (11, true)), []⟩,
    ⟨(some 19), .load (.cell (.int .i64)) (.tmp 18), (some (11, true)), []⟩,
    ⟨(some 20), .indexAddr 1 (.tmp 17) (.tmp 19), (some (11, true)), []⟩,
    ⟨(some 21), .load (.cell (.int .i64)) (.tmp 20), (some (11, true)), []⟩,
    ⟨(some 22), .bin .other .eql (.tmp 16) (.tmp 21), (some (11, true)), []⟩,
    ⟨(some 23), .pick (.tmp 11) (.tmp 22) (.c (.bool false)), none, []⟩,
    ⟨(some 5), .move (.tmp 23), none, []⟩]) k57x1
/-- provenance/link.same$1 -/
def c57 : AFn := ⟨24, [.tmp 5],
  .seq (.ops false [
    ⟨(some 3), .boxL (.tmp 0), none, []⟩,
    ⟨(some 4), .boxL (.tmp 1), none, []⟩,
    ⟨(some 5), .move (.c (.bool false)), none, []⟩]) k57x0⟩
theorem r57 (i0x0 : Int) (i0x1 : Int) (i1x0 : Int) (i1x1 : Int) (p2 : Option Ad) (h : Heap) : runE M C c57 [(.agg [(.int .i64 i0x0), (.int .i64 i0x1)]), (.agg [(.int .i64 i1x0), (.int .i64 i1x1)]), (.ptr p2)] h = (
  letK ((decide ((i0x0 : Int) = i1x0)) : Bool) fun b10 =>
  atP p2 b10 fun a12 =>
  gL (ld1 h a12) b10 fun s12 n12 =>
  gI .i64 (some (.int .i64 i0x1)) b10 fun i14 =>
  chk (b10 = true → (0 : Int) ≤ i14 ∧ (i14 : Int) < ((n12 : Nat) : Int)) <|
  atP (adP s12) b10 fun a15 =>
  atP (some (Ad.add a15 (Int.toNat i14 * 1))) b10 fun a16 =>
  gI .i64 (ld1 h a16) b10 fun i16 =>
  atP p2 b10 fun a17 =>
  gL (ld1 h a17) b10 fun s17 n17 =>
  gI .i64 (some (.int .i64 i1x1)) b10 fun i19 =>
  chk (b10 = true → (0 : Int) ≤ i19 ∧ (i19 : Int) < ((n17 : Nat) : Int)) <|
  atP (adP s17) b10 fun a20 =>
  atP (some (Ad.add a20 (Int.toNat i19 * 1))) b10 fun a21 =>
  gI .i64 (ld1 h a21) b10 fun i21 =>
  letK ((decide ((i16 : Int) = i21)) : Bool) fun b22 =>
  letK ((if b10 = true then b22 else false) : Bool) fun b23 =>
  some ((.bool b23), h)
  ) := by kernel_rfl
theorem cf57 : cFn Try.prog 57 = some c57 := by kernel_rfl
theorem e57 (i0x0 : Int) (i0x1 : Int) (i1x0 : Int) (i1x1 : Int) (p2 : Option Ad) (h : Heap) : E 57 [(.agg [(.int .i64 i0x0), (.int .i64 i0x1)]), (.agg [(.int .i64 i1x0), (.int .i64 i1x1)]), (.ptr p2)] h = (
  letK ((decide ((i0x0 : Int) = i1x0)) : Bool) fun b10 =>
  atP p2 b10 fun a12 =>
  gL (ld1 h a12) b10 fun s12 n12 =>
  gI .i64 (some (.int .i64 i0x1)) b10 fun i14 =>
  chk (b10 = true → (0 : Int) ≤ i14 ∧ (i14 : Int) < ((n12 : Nat) : Int)) <|
  atP (adP s12) b10 fun a15 =>
  atP (some (Ad.add a15 (Int.toNat i14 * 1))) b10 fun a16 =>
  gI .i64 (ld1 h a16) b10 fun i16 =>
  atP p2 b10 fun a17 =>
  gL (ld1 h a17) b10 fun s17 n17 =>
  gI .i64 (some (.int .i64 i1x1)) b10 fun i19 =>
  chk (b10 = true → (0 : Int) ≤ i19 ∧ (i19 : Int) < ((n17 : Nat) : Int)) <|
  atP (adP s17) b10 fun a20 =>
  atP (some (Ad.add a20 (Int.toNat i19 * 1))) b10 fun a21 =>
  gI .i64 (ld1 h a21) b10 fun i21 =>
  letK ((decide ((i16 : Int) = i21)) : Bool) fun b22 =>
  letK ((if b10 = true then b22 else false) : Bool) fun b23 =>
  some ((.bool b23), h)
  ) := (EV_eq (P := Try.prog) (T := T0) rfl cf57 [(.agg [(.int .i64 i0x0), (.int .i64 i0x1)]), (.agg [(.int .i64 i1x0), (.int .i64 i1x1)]), (.ptr p2)] h).trans (r57 mk0 E i0x0 i0x1 i1x0 i1x1 p2 h)
def k46x2 : AC := .ret
def k46x1 : AC := .seq (.mask 64) k46x2
def k46x0 : AC := .seq (.ops true [
    ⟨(some 7), .fieldAddr 4 (.tmp 3), none, []⟩,
    ⟨(some 8), .load (.cell (.int .i64)) (.tmp 7), none, []⟩,
    ⟨(some 9), .fieldAddr 4 (.tmp 4), none, []⟩,
    ⟨(some 10), .load (.cell (.int .i64)) (.tmp 9), none, []⟩,
    ⟨(some 11), .bin .other .eql (.tmp 8) (.tmp 10), none, []⟩,
    ⟨(some 12), .move (.tmp 11), none, []⟩,
    ⟨(some 13), .fieldAddr 1 (.tmp 3), (some (12, true)), []⟩,
    ⟨(some 14), .load (.cell .sl) (.tmp 13), (some (12, true)), []⟩,
    ⟨(some 15), .fieldAddr 1 (.tmp 4), (some (12, true)), []⟩,
    ⟨(some 16), .load (.cell .sl) (.tmp 15), (some (12, true)), []⟩,
    ⟨(some 17), .call 53 [(.tmp 14), (.tmp 16)] [(.cell .bool)] (.bool false), (some (12, true)), []⟩,
    ⟨(some 18), .pick (.tmp 12) (.tmp 17) (.c (.bool false)), none, []⟩,
    ⟨(some 19), .move (.tmp 18), none, []⟩,
    ⟨(some 20), .fieldAddr 3 (.tmp 3), (some (19, true)), []⟩,
    ⟨(some 21), .load (.cell .sl) (.tmp 20), (some (19, true)), []⟩,
    ⟨(some 22), .fieldAddr 3 (.tmp 4), (some (19, true)), []⟩,
    ⟨(some 23), .load (.cell .sl) (.tmp 22), (some (19, true)), []⟩,
    ⟨(some 24), .call 54 [(.tmp 21), (.tmp 23), (.c (.fn 55 [] []))] [(.cell .bool)] (.bool false), (some (19, true)), []⟩,
    ⟨(some 25), .pick (.tmp 19) (.tmp 24) (.c (.bool false)), none, []⟩,
    ⟨(some 26), .move (.tmp 25), none, []⟩,
    ⟨(some 27), .fieldAddr 2 (.tmp 3), (some (26, true)), []⟩,
    ⟨(some 28), .load (.cell .sl) (.tmp 27), (some (26, true)), []⟩,
    ⟨(some 29), .fieldAddr 2 (.tmp 4), (some (26, true)), []⟩,
    ⟨(some 30), .load (.cell .sl) (.tmp 29), (some (26, true)), []⟩,
    ⟨(some 31), .makeFn 57 [] [(.tmp 5)], (some (26, true)), []⟩,
    ⟨(some 32), .call 56 [(.tmp 28), (.tmp 30), (.tmp 31)] [(.cell .bool)] (.bool false), (some (26, true)), []⟩,
    ⟨(some 33), .pick (.tmp 26) (.tmp 32) (.c (.bool false)), none, []⟩,
    ⟨(some 6), .move (.tmp 33), none, []⟩]) k46x1
/-- provenance/link.same -/
def c46 : AFn := ⟨34, [.tmp 6],
  .seq (.ops false [
    ⟨(some 3), .boxL (.tmp 0), none, []⟩,
    ⟨(some 4), .boxL (.tmp 1), none, []⟩,
    ⟨(some 5), .boxH (.tmp 2), none, []⟩,
    ⟨(some 6), .move (.c (.bool false)), none, []⟩]) k46x0⟩
theorem r46 (i0x0 : Int) (s0x1 : SA) (n0x1 : Nat) (s0x2 : SA) (n0x2 : Nat) (s0x3 : SA) (n0x3 : Nat) (i0x4 : Int) (i1x0 : Int) (s1x1 : SA) (n1x1 : Nat) (s1x2 : SA) (n1x2 : Nat) (s1x3 : SA) (n1x3 : Nat) (i1x4 : Int) (s2 : SA) (n2 : Nat) (h : Heap) : runE M C c46 [(.agg [(.int .i64 i0x0), (.sl s0x1 n0x1), (.sl s0x2 n0x2), (.sl s0x3 n0x3), (.int .i64 i0x4)]), (.agg [(.int .i64 i1x0), (.sl s1x1 n1x1), (.sl s1x2 n1x2), (.sl s1x3 n1x3), (.int .i64 i1x4)]), (.sl s2 n2)] h = (
  newK h (.cells [(.sl s2 n2)] .fix 0) fun h_2 =>
  letK ((decide ((i0x4 : Int) = i1x4)) : Bool) fun b11 =>
  gL (some (.sl s0x1 n0x1)) b11 fun s14 n14 =>
  gL (some (.sl s1x1 n1x1)) b11 fun s16 n16 =>
  (callO b11 (C 53 [(.sl s14 n14), (.sl s16 n16)] h_2) (.bool false) h_2).bind fun r17 =>
  gB (some r17.1) b11 fun b17 =>
  letK ((if b11 = true then b17 else false) : Bool) fun b18 =>
  gL (some (.sl s0x3 n0x3)) b18 fun s21 n21 =>
  gL (some (.sl s1x3 n1x3)) b18 fun s23 n23 =>
  (callO b18 (C 54 [(.sl s21 n21), (.sl s23 n23), (.fn 55 [] [])] r17.2) (.bool false) r17.2).bind fun r24 =>
  gB (some r24.1) b18 fun b24 =>
  letK ((if b18 = true then b24 else false) : Bool) fun b25 =>
  gL (some (.sl s0x2 n0x2)) b25 fun s28 n28 =>
  gL (some (.sl s1x2 n1x2)) b25 fun s30 n30 =>
  (callO b25 (C 56 [(.sl s28 n28), (.sl s30 n30), (.fn 57 [] [(.ptr (some ⟨List.length h, 0, 0⟩))])] r24.2) (.bool false) r24.2).bind fun r32 =>
  gB (some r32.1) b25 fun b32 =>
  letK ((if b25 = true then b32 else false) : Bool) fun b33 =>
  some ((.bool b33), r32.2)
  ) := by kernel_rfl
theorem cf46 : cFn Try.prog 46 = some c46 := by kernel_rfl
theorem e46 (i0x0 : Int) (s0x1 : SA) (n0x1 : Nat) (s0x2 : SA) (n0x2 : Nat) (s0x3 : SA) (n0x3 : Nat) (i0x4 : Int) (i1x0 : Int) (s1x1 : SA) (n1x1 : Nat) (s1x2 : SA) (n1x2 : Nat) (s1x3 : SA) (n1x3 : Nat) (i1x4 : Int) (s2 : SA) (n2 : Nat) (h : Heap) : E 46 [(.agg [(.int .i64 i0x0), (.sl s0x1 n0x1), (.sl s0x2 n0x2), (.sl s0x3 n0x3), (.int .i64 i0x4)]), (.agg [(.int .i64 i1x0), (.sl s1x1 n1x1), (.sl s1x2 n1x2), (.sl s1x3 n1x3), (.int .i64 i1x4)]), (.sl s2 n2)] h = (
  newK h (.cells [(.sl s2 n2)] .fix 0) fun h_2 =>
  letK ((decide ((i0x4 : Int) = i1x4)) : Bool) fun b11 =>
  gL (some (.sl s0x1 n0x1)) b11 fun s14 n14 =>
  gL (some (.sl s1x1 n1x1)) b11 fun s16 n16 =>
  (callO b11 (E 53 [(.sl s14 n14), (.sl s16 n16)] h_2) (.bool false) h_2).bind fun r17 =>
  gB (some r17.1) b11 fun b17 =>
  letK ((if b11 = true then b17 else false) : Bool) fun b18 =>
  gL (some (.sl s0x3 n0x3)) b18 fun s21 n21 =>
  gL (some (.sl s1x3 n1x3)) b18 fun s23 n23 =>
  (callO b18 (E 54 [(.sl s21 n21), (.sl s23 n23), (.fn 55 [] [])] r17.2) (.bool false) r17.2).bind fun r24 =>
  gB (some r24.1) b18 fun b24 =>
  letK ((if b18 = true then b24 else false) : Bool) fun b25 =>
  gL (some (.sl s0x2 n0x2)) b25 fun s28 n28 =>
  gL (some (.sl s1x2 n1x2)) b25 fun s30 n30 =>
  (callO b25 (E 56 [(.sl s28 n28), (.sl s30 n30), (.fn 57 [] [(.ptr (some ⟨List.length h, 0, 0⟩))])] r24.2) (.bool false) r24.2).bind fun r32 =>
  gB (some r32.1) b25 fun b32 =>
  letK ((if b25 = true then b32 else false) : Bool) fun b33 =>
  some ((.bool b33), r32.2)
  ) := (EV_eq (P := Try.prog) (T := T0) rfl cf46 [(.agg [(.int .i64 i0x0), (.sl s0x1 n0x1), (.sl s0x2 n0x2), (.sl s0x3 n0x3), (.int .i64 i0x4)]), (.agg [(.int .i64 i1x0), (.sl s1x1 n1x1), (.sl s1x2 n1x2), (.sl s1x3 n1x3), (.int .i64 i1x4)]), (.sl s2 n2)] h).trans (r46 mk0 E i0x0 s0x1 n0x1 s0x2 n0x2 s0x3 n0x3 i0x4 i1x0 s1x1 n1x1 s1x2 n1x2 s1x3 n1x3 i1x4 s2 n2 h)
def k52x8 : AC := .exit 0
def k52x7 : AC := .mask 114694
def k52x15 : AC := .ret
def k52x14 : AC := .seq (.mask 16) k52x15
def k52x13 : AC := .mask 114694
def k52x12 : AC := .seq (.cond (.tmp 25)
   (.seq (.ops false [
      ⟨(some 4), .move (.c (.int .i64 4)), none, []⟩]) k52x14)
   (.skip)) k52x13
def k52x11 : AC := .seq (.ops false [
    ⟨(some 20), .fieldAddr 5 (.tmp 6), none, []⟩,
    ⟨(some 21), .load (.cell (.int .i64)) (.tmp 20), none, []⟩,
    ⟨(some 22), .fieldAddr 1 (.tmp 2), none, []⟩,
    ⟨(some 23), .load (.cell .sl) (.tmp 22), none, []⟩,
    ⟨(some 24), .lenSl (.tmp 23), none, []⟩,
    ⟨(some 25), .bin .other .eql (.tmp 21) (.tmp 24), none, []⟩]) k52x12
def k52x10 : AC := .mask 114694
def k52x9 : AC := .ops false [
    ⟨(some 26), .bin .other .add (.tmp 16) (.c (.int .i64 1)), none, []⟩,
    ⟨(some 16), .move (.tmp 26), none, []⟩]
def k52x6 : AC := .seq (.seq (.block 1 (.seq (.ops false [
     ⟨(some 18), .indexAddr 6 (.tmp 14) (.tmp 16), none, []⟩,
     ⟨(some 19), .load (.agg [(.int .i64), (.int .i64), (.int .i64), (.int .i64), (.int .i64), (.int .i64)]) (.tmp 18), none, []⟩,
     ⟨(some 6), .allocL (List.replicate 6 (.int .i64 0)), none, []⟩,
     ⟨none, .store 6 (.tmp 6) (.tmp 19), none, []⟩]) k52x11)) k52x10) k52x9
def k52x5 : AC := .seq (.seq (.cond (.tmp 17)
   (.skip)
   (.seq (.mask 6) k52x8)) k52x7) k52x6
def k52x4 : AC := .seq (.ops false [
    ⟨(some 17), .bin .other .lss (.tmp 16) (.tmp 15), none, []⟩]) k52x5
def k52x3 : AC := .mask 6
def k52x2 : AC := .seq (.block 0 (.loop 114694 6 k52x4)) k52x3
def k52x24 : AC := .exit 2
def k52x23 : AC := .mask 1879048326
def k52x32 : AC := .ret
def k52x31 : AC := .seq (.mask 16) k52x32
def k52x30 : AC := .mask 1879048710
def k52x29 : AC := .seq (.cond (.tmp 56)
   (.seq (.ops false [
      ⟨(some 4), .move (.c (.int .i64 4)), none, []⟩]) k52x31)
   (.skip)) k52x30
def k52x38 : AC := .ret
def k52x37 : AC := .seq (.mask 16) k52x38
def k52x36 : AC := .mask 1879048710
def k52x35 : AC := .seq (.cond (.tmp 83)
   (.seq (.ops false [
      ⟨(some 4), .move (.c (.int .i64 3)), none, []⟩]) k52x37)
   (.skip)) k52x36
def k52x34 : AC := .ops false [
    ⟨(some 84), .fieldAddr 0 (.tmp 9), none, []⟩,
    ⟨(some 85), .load (.cell (.int .i64)) (.tmp 84), none, []⟩,
    ⟨(some 7), .move (.tmp 85), none, []⟩]
def k52x33 : AC := .seq (.seq (.ops true [
    ⟨(some 63), .fieldAddr 0 (.tmp 10), none, []⟩,
    ⟨(some 64), .fieldAddr 0 (.tmp 63), none, []⟩,
    ⟨(some 65), .load (.cell (.int .i64)) (.tmp 64), none, []⟩,
    ⟨(some 66), .bin .other .neq (.tmp 65) (.c (.int .i64 20)), none, []⟩,
    ⟨(some 67), .move (.tmp 66), none, []⟩,
    ⟨(some 68), .fieldAddr 0 (.tmp 10), (some (67, true)), []⟩,
    ⟨(some 69), .fieldAddr 0 (.tmp 68), (some (67, true)), []⟩,
    ⟨(some 70), .load (.cell (.int .i64)) (.tmp 69), (some (67, true)), []⟩,
    ⟨(some 71), .bin .other .neq (.tmp 70) (.c (.int .i64 11)), (some (67, true)), []⟩,
    ⟨(some 72), .pick (.tmp 67) (.tmp 71) (.c (.bool false)), none, []⟩,
    ⟨(some 73), .move (.tmp 72), none, []⟩,
    ⟨(some 74), .fieldAddr 5 (.tmp 10), (some (73, false)), []⟩,
    ⟨(some 75), .load (.cell (.int .i64)) (.tmp 74), (some (73, false)), []⟩,
    ⟨(some 76), .bin .other .geq (.tmp 75) (.c (.int .i64 0)), (some (73, false)), []⟩,
    ⟨(some 77), .pick (.tmp 73) (.c (.bool true)) (.tmp 76), none, []⟩,
    ⟨(some 78), .move (.tmp 77), none, []⟩,
    ⟨(some 79), .fieldAddr 0 (.tmp 10), (some (78, false)), []⟩,
    ⟨(some 80), .fieldAddr 4 (.tmp 79), (some (78, false)), []⟩,
    ⟨(some 81), .load (.cell (.int .i64)) (.tmp 80), (some (78, false)), []⟩,
    ⟨(some 82), .bin .other .neq (.tmp 81) (.c (.int .i64 0)), (some (78, false)), []⟩,
    ⟨(some 83), .pick (.tmp 78) (.c (.bool true)) (.tmp 82), none, []⟩]) k52x35) k52x34
def k52x28 : AC := .seq (.ops false [
    ⟨(some 57), .fieldAddr 1 (.tmp 2), none, []⟩,
    ⟨(some 58), .load (.cell .sl) (.tmp 57), none, []⟩,
    ⟨(some 59), .fieldAddr 0 (.tmp 9), none, []⟩,
    ⟨(some 60), .load (.cell (.int .i64)) (.tmp 59), none, []⟩,
    ⟨(some 61), .indexAddr 6 (.tmp 58) (.tmp 60), none, []⟩,
    ⟨(some 62), .load (.agg [(.int .i64), (.int .i64), (.int .i64), (.int .i64), (.int .i64), (.int .i64)]) (.tmp 61), none, []⟩,
    ⟨(some 10), .allocL (List.replicate 6 (.int .i64 0)), none, []⟩,
    ⟨none, .store 6 (.tmp 10) (.tmp 62), none, []⟩]) k52x33
def k52x27 : AC := .seq (.seq (.ops true [
    ⟨(some 34), .fieldAddr 0 (.tmp 9), none, []⟩,
    ⟨(some 35), .load (.cell (.int .i64)) (.tmp 34), none, []⟩,
    ⟨(some 36), .move (.tmp 7), none, []⟩,
    ⟨(some 37), .bin .other .leq (.tmp 35) (.tmp 36), none, []⟩,
    ⟨(some 38), .move (.tmp 37), none, []⟩,
    ⟨(some 39), .fieldAddr 0 (.tmp 9), (some (38, false)), []⟩,
    ⟨(some 40), .load (.cell (.int .i64)) (.tmp 39), (some (38, false)), []⟩,
    ⟨(some 41), .fieldAddr 1 (.tmp 2), (some (38, false)), []⟩,
    ⟨(some 42), .load (.cell .sl) (.tmp 41), (some (38, false)), []⟩,
    ⟨(some 43), .lenSl (.tmp 42), (some (38, false)), []⟩,
    ⟨(some 44), .bin .other .geq (.tmp 40) (.tmp 43), (some (38, false)), []⟩,
    ⟨(some 45), .pick (.tmp 38) (.c (.bool true)) (.tmp 44), none, []⟩,
    ⟨(some 46), .move (.tmp 45), none, []⟩,
    ⟨(some 47), .fieldAddr 1 (.tmp 9), (some (46, false)), []⟩,
    ⟨(some 48), .load (.cell (.int .i64)) (.tmp 47), (some (46, false)), []⟩,
    ⟨(some 49), .bin .other .lss (.tmp 48) (.c (.int .i64 0)), (some (46, false)), []⟩,
    ⟨(some 50), .pick (.tmp 46) (.c (.bool true)) (.tmp 49), none, []⟩,
    ⟨(some 51), .move (.tmp 50), none, []⟩,
    ⟨(some 52), .fieldAddr 1 (.tmp 9), (some (51, false)), []⟩,
    ⟨(some 53), .load (.cell (.int .i64)) (.tmp 52), (some (51, false)), []⟩,
    ⟨(some 54), .move (.tmp 1), (some (51, false)), []⟩,
    ⟨(some 55), .bin .other .geq (.tmp 53) (.tmp 54), (some (51, false)), []⟩,
    ⟨(some 56), .pick (.tmp 51) (.c (.bool true)) (.tmp 55), none, []⟩]) k52x29) k52x28
def k52x26 : AC := .mask 1879048326
def k52x25 : AC := .ops false [
    ⟨(some 86), .bin .other .add (.tmp 30) (.c (.int .i64 1)), none, []⟩,
    ⟨(some 30), .move (.tmp 86), none, []⟩]
def k52x22 : AC := .seq (.seq (.block 3 (.seq (.ops false [
     ⟨(some 32), .indexAddr 2 (.tmp 28) (.tmp 30), none, []⟩,
     ⟨(some 33), .load (.agg [(.int .i64), (.int .i64)]) (.tmp 32), none, []⟩,
     ⟨(some 9), .allocL [(.int .i64 0), (.int .i64 0)], none, []⟩,
     ⟨none, .store 2 (.tmp 9) (.tmp 33), none, []⟩]) k52x27)) k52x26) k52x25
def k52x21 : AC := .seq (.seq (.cond (.tmp 31)
   (.skip)
   (.seq (.mask 4) k52x24)) k52x23) k52x22
def k52x20 : AC := .seq (.ops false [
    ⟨(some 31), .bin .other .lss (.tmp 30) (.tmp 29), none, []⟩]) k52x21
def k52x19 : AC := .mask 4
def k52x18 : AC := .seq (.block 2 (.loop 1879048326 4 k52x20)) k52x19
def k52x47 : AC := .exit 4
def k52x46 : AC := .mask 2166395068749415481073467524
def k52x55 : AC := .ret
def k52x54 : AC := .seq (.mask 16) k52x55
def k52x53 : AC := .mask 2166395068749415481073471492
def k52x52 : AC := .seq (.cond (.tmp 118)
   (.seq (.ops false [
      ⟨(some 4), .move (.c (.int .i64 4)), none, []⟩]) k52x54)
   (.skip)) k52x53
def k52x51 : AC := .ops false [
    ⟨(some 119), .fieldAddr 0 (.tmp 12), none, []⟩,
    ⟨(some 120), .load (.cell (.int .i64)) (.tmp 119), none, []⟩,
    ⟨(some 7), .move (.tmp 120), none, []⟩]
def k52x50 : AC := .seq (.seq (.ops true [
    ⟨(some 94), .fieldAddr 0 (.tmp 12), none, []⟩,
    ⟨(some 95), .load (.cell (.int .i64)) (.tmp 94), none, []⟩,
    ⟨(some 96), .move (.tmp 7), none, []⟩,
    ⟨(some 97), .bin .other .leq (.tmp 95) (.tmp 96), none, []⟩,
    ⟨(some 98), .move (.tmp 97), none, []⟩,
    ⟨(some 99), .fieldAddr 0 (.tmp 12), (some (98, false)), []⟩,
    ⟨(some 100), .load (.cell (.int .i64)) (.tmp 99), (some (98, false)), []⟩,
    ⟨(some 101), .fieldAddr 1 (.tmp 2), (some (98, false)), []⟩,
    ⟨(some 102), .load (.cell .sl) (.tmp 101), (some (98, false)), []⟩,
    ⟨(some 103), .lenSl (.tmp 102), (some (98, false)), []⟩,
    ⟨(some 104), .bin .other .geq (.tmp 100) (.tmp 103), (some (98, false)), []⟩,
    ⟨(some 105), .pick (.tmp 98) (.c (.bool true)) (.tmp 104), none, []⟩,
    ⟨(some 106), .move (.tmp 105), none, []⟩,
    ⟨(some 107), .fieldAddr 1 (.tmp 12), (some (106, false)), []⟩,
    ⟨(some 108), .load (.cell .bool) (.tmp 107), (some (106, false)), []⟩,
    ⟨(some 109), .move (.tmp 108), (some (106, false)), []⟩,
    ⟨(some 110), .fieldAddr 0 (.tmp 12), (some (109, true)), []⟩,
    ⟨(some 111), .load (.cell (.int .i64)) (.tmp 110), (some (109, true)), []⟩,
    ⟨(some 112), .bin .other .add (.tmp 111) (.c (.int .i64 1)), (some (109, true)), []⟩,
    ⟨(some 113), .fieldAddr 1 (.tmp 2), (some (109, true)), []⟩,
    ⟨(some 114), .load (.cell .sl) (.tmp 113), (some (109, true)), []⟩,
    ⟨(some 115), .lenSl (.tmp 114), (some (109, true)), []⟩,
    ⟨(some 116), .bin .other .geq (.tmp 112) (.tmp 115), (some (109, true)), []⟩,
    ⟨(some 117), .pick (.tmp 109) (.tmp 116) (.c (.bool false)), (some (106, false)), []⟩,
    ⟨(some 118), .pick (.tmp 106) (.c (.bool true)) (.tmp 117), none, []⟩]) k52x52) k52x51
def k52x49 : AC := .mask 2166395068749415481073467524
def k52x48 : AC := .ops false [
    ⟨(some 121), .bin .other .add (.tmp 90) (.c (.int .i64 1)), none, []⟩,
    ⟨(some 90), .move (.tmp 121), none, []⟩]
def k52x45 : AC := .seq (.seq (.block 5 (.seq (.ops false [
     ⟨(some 92), .indexAddr 4 (.tmp 88) (.tmp 90), none, []⟩,
     ⟨(some 93), .load (.agg [(.int .i64), .bool, .sl, (.int .i64)]) (.tmp 92), none, []⟩,
     ⟨(some 12), .allocL [(.int .i64 0), (.bool false), (.sl .nil 0), (.int .i64 0)], none, []⟩,
     ⟨none, .store 4 (.tmp 12) (.tmp 93), none, []⟩]) k52x50)) k52x49) k52x48
def k52x44 : AC := .seq (.seq (.cond (.tmp 91)
   (.skip)
   (.seq (.mask 0) k52x47)) k52x46) k52x45
def k52x43 : AC := .seq (.ops false [
    ⟨(some 91), .bin .other .lss (.tmp 90) (.tmp 89), none, []⟩]) k52x44
def k52x42 : AC := .mask 0
def k52x41 : AC := .seq (.block 4 (.loop 2166395068749415481073467524 0 k52x43)) k52x42
def k52x57 : AC := .ret
def k52x56 : AC := .seq (.mask 16) k52x57
def k52x40 : AC := .seq (.ops false [
    ⟨(some 4), .move (.c (.int .i64 0)), none, []⟩]) k52x56
def k52x39 : AC := .seq (.seq (.ops false [
    ⟨(some 87), .fieldAddr 3 (.tmp 2), none, []⟩,
    ⟨(some 88), .load (.cell .sl) (.tmp 87), none, []⟩,
    ⟨(some 89), .lenSl (.tmp 88), none, []⟩,
    ⟨(some 90), .move (.c (.int .i64 0)), none, []⟩]) k52x41) k52x40
def k52x17 : AC := .seq (.ops false [
    ⟨(some 7), .move (.c (.int .i64 (-1))), none, []⟩]) k52x39
def k52x16 : AC := .seq (.seq (.ops false [
    ⟨(some 27), .fieldAddr 2 (.tmp 2), none, []⟩,
    ⟨(some 28), .load (.cell .sl) (.tmp 27), none, []⟩,
    ⟨(some 29), .lenSl (.tmp 28), none, []⟩,
    ⟨(some 30), .move (.c (.int .i64 0)), none, []⟩]) k52x18) k52x17
def k52x1 : AC := .seq (.ops false [
    ⟨(some 7), .move (.c (.int .i64 (-1))), none, []⟩]) k52x16
def k52x0 : AC := .seq (.seq (.ops false [
    ⟨(some 13), .fieldAddr 1 (.tmp 2), none, []⟩,
    ⟨(some 14), .load (.cell .sl) (.tmp 13), none, []⟩,
    ⟨(some 15), .lenSl (.tmp 14), none, []⟩,
    ⟨(some 16), .move (.c (.int .i64 0)), none, []⟩]) k52x2) k52x1
/-- provenance/link.checkRefs -/
def c52 : AFn := ⟨122, [.tmp 4],
  .seq (.ops false [
    ⟨(some 2), .boxL (.tmp 0), none, []⟩,
    ⟨(some 4), .move (.c (.int .i64 0)), none, []⟩]) k52x0⟩
def S52xr (i4 : Int) (h : Heap) : St := ⟨(rep 4 (.g [] true (.int .i64 i4) :: (rep 117 []))), h⟩
def S52xe0 (i1 : Int) (i2x0 : Int) (s2x1 : SA) (n2x1 : Nat) (s2x2 : SA) (n2x2 : Nat) (s2x3 : SA) (n2x3 : Nat) (i2x4 : Int) (h : Heap) : St := ⟨(.any :: (.g [] true (.int .i64 i1) :: (.box [(.int .i64 i2x0), (.sl s2x1 n2x1), (.sl s2x2 n2x2), (.sl s2x3 n2x3), (.int .i64 i2x4)] :: (rep 119 [])))), h⟩
def S52xe2 (i2x0 : Int) (s2x1 : SA) (n2x1 : Nat) (s2x2 : SA) (n2x2 : Nat) (s2x3 : SA) (n2x3 : Nat) (i2x4 : Int) (h : Heap) : St := ⟨(.any :: .any :: (.box [(.int .i64 i2x0), (.sl s2x1 n2x1), (.sl s2x2 n2x2), (.sl s2x3 n2x3), (.int .i64 i2x4)] :: (rep 119 []))), h⟩
def S52xe4 (h : Heap) : St := ⟨(rep 122 []), h⟩
noncomputable def Q52x4 (M : Mk) (C : Cal) : Kont (AV × Heap) := (blockQ 0 (seqQ (evalE M C k52x3) (seqQ (evalE M C k52x1) (endQ [.tmp 4]))))
noncomputable def L52x4 (i1 : Int) (i2x0 : Int) (s2x1 : SA) (n2x1 : Nat) (s2x2 : SA) (n2x2 : Nat) (s2x3 : SA) (n2x3 : Nat) (i2x4 : Int) (s14 : SA) (n14 : Nat) (i15 : Int) (i16 : Int) (h : Heap) (Q : Kont R) : Option R := loopE (evalE M C k52x4) 114694 6 ⟨(.any :: (.g [] true (.int .i64 i1) :: (.box [(.int .i64 i2x0), (.sl s2x1 n2x1), (.sl s2x2 n2x2), (.sl s2x3 n2x3), (.int .i64 i2x4)] :: (rep 11 (.g [] true (.sl s14 n14) :: (.g [] true (.int .i64 i15) :: (.g [] true (.int .i64 i16) :: (rep 105 [])))))))), h⟩ Q
noncomputable def Q52x20 (M : Mk) (C : Cal) : Kont (AV × Heap) := (blockQ 2 (seqQ (evalE M C k52x19) (seqQ (evalE M C k52x17) (endQ [.tmp 4]))))
noncomputable def L52x20 (i1 : Int) (i2x0 : Int) (s2x1 : SA) (n2x1 : Nat) (s2x2 : SA) (n2x2 : Nat) (s2x3 : SA) (n2x3 : Nat) (i2x4 : Int) (i7 : Int) (s28 : SA) (n28 : Nat) (i29 : Int) (i30 : Int) (h : Heap) (Q : Kont R) : Option R := loopE (evalE M C k52x20) 1879048326 4 ⟨(.any :: (.g [] true (.int .i64 i1) :: (.box [(.int .i64 i2x0), (.sl s2x1 n2x1), (.sl s2x2 n2x2), (.sl s2x3 n2x3), (.int .i64 i2x4)] :: (rep 4 (.g [] true (.int .i64 i7) :: (rep 20 (.g [] true (.sl s28 n28) :: (.g [] true (.int .i64 i29) :: (.g [] true (.int .i64 i30) :: (rep 91 [])))))))))), h⟩ Q
noncomputable def Q52x43 (M : Mk) (C : Cal) : Kont (AV × Heap) := (blockQ 4 (seqQ (evalE M C k52x42) (seqQ (evalE M C k52x40) (endQ [.tmp 4]))))
noncomputable def L52x43 (i2x0 : Int) (s2x1 : SA) (n2x1 : Nat) (s2x2 : SA) (n2x2 : Nat) (s2x3 : SA) (n2x3 : Nat) (i2x4 : Int) (i7 : Int) (s88 : SA) (n88 : Nat) (i89 : Int) (i90 : Int) (h : Heap) (Q : Kont R) : Option R := loopE (evalE M C k52x43) 2166395068749415481073467524 0 ⟨(.any :: .any :: (.box [(.int .i64 i2x0), (.sl s2x1 n2x1), (.sl s2x2 n2x2), (.sl s2x3 n2x3), (.int .i64 i2x4)] :: (rep 4 (.g [] true (.int .i64 i7) :: (rep 80 (.g [] true (.sl s88 n88) :: (.g [] true (.int .i64 i89) :: (.g [] true (.int .i64 i90) :: (rep 31 []))))))))), h⟩ Q
theorem r52 (i0x0 : Int) (s0x1 : SA) (n0x1 : Nat) (s0x2 : SA) (n0x2 : Nat) (s0x3 : SA) (n0x3 : Nat) (i0x4 : Int) (i1 : Int) (h : Heap) : runE M C c52 [(.agg [(.int .i64 i0x0), (.sl s0x1 n0x1), (.sl s0x2 n0x2), (.sl s0x3 n0x3), (.int .i64 i0x4)]), (.int .i64 i1)] h = (
  L52x4 M C i1 i0x0 s0x1 n0x1 s0x2 n0x2 s0x3 n0x3 i0x4 s0x1 n0x1 ((n0x1 : Nat) : Int) 0 h (Q52x4 M C)
  ) := by kernel_rfl
theorem cf52 : cFn Try.prog 52 = some c52 := by kernel_rfl
theorem e52 (i0x0 : Int) (s0x1 : SA) (n0x1 : Nat) (s0x2 : SA) (n0x2 : Nat) (s0x3 : SA) (n0x3 : Nat) (i0x4 : Int) (i1 : Int) (h : Heap) : E 52 [(.agg [(.int .i64 i0x0), (.sl s0x1 n0x1), (.sl s0x2 n0x2), (.sl s0x3 n0x3), (.int .i64 i0x4)]), (.int .i64 i1)] h = (
  L52x4 mk0 E i1 i0x0 s0x1 n0x1 s0x2 n0x2 s0x3 n0x3 i0x4 s0x1 n0x1 ((n0x1 : Nat) : Int) 0 h (Q52x4 mk0 E)
  ) := (EV_eq (P := Try.prog) (T := T0) rfl cf52 [(.agg [(.int .i64 i0x0), (.sl s0x1 n0x1), (.sl s0x2 n0x2), (.sl s0x3 n0x3), (.int .i64 i0x4)]), (.int .i64 i1)] h).trans (r52 mk0 E i0x0 s0x1 n0x1 s0x2 n0x2 s0x3 n0x3 i0x4 i1 h)
theorem L52x4xaux (i1 : Int) (i2x0 : Int) (s2x1 : SA) (n2x1 : Nat) (s2x2 : SA) (n2x2 : Nat) (s2x3 : SA) (n2x3 : Nat) (i2x4 : Int) (s14 : SA) (n14 : Nat) (i15 : Int) (i16 : Int) (h : Heap) (Q : Kont R) : (restrF 114694 ⟨(.any :: (.g [] true (.int .i64 i1) :: (.box [(.int .i64 i2x0), (.sl s2x1 n2x1), (.sl s2x2 n2x2), (.sl s2x3 n2x3), (.int .i64 i2x4)] :: (rep 11 (.g [] true (.sl s14 n14) :: (.g [] true (.int .i64 i15) :: (.g [] true (.int .i64 i16) :: (rep 105 [])))))))), h⟩ fun σ => evalE M C k52x4 σ (roundQ M C k52x4 114694 6 Q)) = (
  letK ((decide ((i16 : Int) < i15)) : Bool) fun b17 =>
  if b17 = true then
    (
    chk (true = true → (0 : Int) ≤ i16 ∧ (i16 : Int) < ((n14 : Nat) : Int)) <|
    atP (adP s14) true fun a18 =>
    gCells (ldN h (Ad.add a18 (Int.toNat i16 * 6)) 6) true fun l19 =>
    gI .i64 (l19[0]?) true fun i19x0 =>
    gI .i64 (l19[1]?) true fun i19x1 =>
    gI .i64 (l19[2]?) true fun i19x2 =>
    gI .i64 (l19[3]?) true fun i19x3 =>
    gI .i64 (l19[4]?) true fun i19x4 =>
    gI .i64 (l19[5]?) true fun i19x5 =>
    letK ((decide ((i19x5 : Int) = ((n2x1 : Nat) : Int))) : Bool) fun b25 =>
    if b25 = true then
      (
      Q .ret (S52xr 4 h)
      )
    else
      (
      letK ((IntKind.wrap .i64 (i16 + 1)) : Int) fun i26 =>
      L52x4 M C i1 i2x0 s2x1 n2x1 s2x2 n2x2 s2x3 n2x3 i2x4 s14 n14 i15 i26 h Q
      )
    )
  else
    (
    Q (.exit 0) (S52xe0 i1 i2x0 s2x1 n2x1 s2x2 n2x2 s2x3 n2x3 i2x4 h)
    )
  ) := by kernel_rfl
theorem L52x4xeq (i1 : Int) (i2x0 : Int) (s2x1 : SA) (n2x1 : Nat) (s2x2 : SA) (n2x2 : Nat) (s2x3 : SA) (n2x3 : Nat) (i2x4 : Int) (s14 : SA) (n14 : Nat) (i15 : Int) (i16 : Int) (h : Heap) (Q : Kont R) : L52x4 mk0 C i1 i2x0 s2x1 n2x1 s2x2 n2x2 s2x3 n2x3 i2x4 s14 n14 i15 i16 h Q = (
  letK ((decide ((i16 : Int) < i15)) : Bool) fun b17 =>
  if b17 = true then
    (
    chk (true = true → (0 : Int) ≤ i16 ∧ (i16 : Int) < ((n14 : Nat) : Int)) <|
    atP (adP s14) true fun a18 =>
    gCells (ldN h (Ad.add a18 (Int.toNat i16 * 6)) 6) true fun l19 =>
    gI .i64 (l19[0]?) true fun i19x0 =>
    gI .i64 (l19[1]?) true fun i19x1 =>
    gI .i64 (l19[2]?) true fun i19x2 =>
    gI .i64 (l19[3]?) true fun i19x3 =>
    gI .i64 (l19[4]?) true fun i19x4 =>
    gI .i64 (l19[5]?) true fun i19x5 =>
    letK ((decide ((i19x5 : Int) = ((n2x1 : Nat) : Int))) : Bool) fun b25 =>
    if b25 = true then
      (
      Q .ret (S52xr 4 h)
      )
    else
      (
      letK ((IntKind.wrap .i64 (i16 + 1)) : Int) fun i26 =>
      L52x4 mk0 C i1 i2x0 s2x1 n2x1 s2x2 n2x2 s2x3 n2x3 i2x4 s14 n14 i15 i26 h Q
      )
    )
  else
    (
    Q (.exit 0) (S52xe0 i1 i2x0 s2x1 n2x1 s2x2 n2x2 s2x3 n2x3 i2x4 h)
    )
  ) := loop_eqn C k52x4 114694 6 (.any :: (.g [] true (.int .i64 i1) :: (.box [(.int .i64 i2x0), (.sl s2x1 n2x1), (.sl s2x2 n2x2), (.sl s2x3 n2x3), (.int .i64 i2x4)] :: (rep 11 (.g [] true (.sl s14 n14) :: (.g [] true (.int .i64 i15) :: (.g [] true (.int .i64 i16) :: (rep 105 [])))))))) h Q (by kernel_rfl) (L52x4xaux mk0 C i1 i2x0 s2x1 n2x1 s2x2 n2x2 s2x3 n2x3 i2x4 s14 n14 i15 i16 h Q)
theorem X52x4xr (M : Mk) (C : Cal) (i4 : Int) (h : Heap) : Q52x4 M C .ret (S52xr i4 h) = (
  some ((.int .i64 i4), h)
  ) := by kernel_rfl
theorem X52x4xe0 (M : Mk) (C : Cal) (i1 : Int) (i2x0 : Int) (s2x1 : SA) (n2x1 : Nat) (s2x2 : SA) (n2x2 : Nat) (s2x3 : SA) (n2x3 : Nat) (i2x4 : Int) (h : Heap) : Q52x4 M C (.exit 0) (S52xe0 i1 i2x0 s2x1 n2x1 s2x2 n2x2 s2x3 n2x3 i2x4 h) = (
  L52x20 M C i1 i2x0 s2x1 n2x1 s2x2 n2x2 s2x3 n2x3 i2x4 (-1) s2x2 n2x2 ((n2x2 : Nat) : Int) 0 h (Q52x20 M C)
  ) := by kernel_rfl
theorem L52x20xaux (i1 : Int) (i2x0 : Int) (s2x1 : SA) (n2x1 : Nat) (s2x2 : SA) (n2x2 : Nat) (s2x3 : SA) (n2x3 : Nat) (i2x4 : Int) (i7 : Int) (s28 : SA) (n28 : Nat) (i29 : Int) (i30 : Int) (h : Heap) (Q : Kont R) : (restrF 1879048326 ⟨(.any :: (.g [] true (.int .i64 i1) :: (.box [(.int .i64 i2x0), (.sl s2x1 n2x1), (.sl s2x2 n2x2), (.sl s2x3 n2x3), (.int .i64 i2x4)] :: (rep 4 (.g [] true (.int .i64 i7) :: (rep 20 (.g [] true (.sl s28 n28) :: (.g [] true (.int .i64 i29) :: (.g [] true (.int .i64 i30) :: (rep 91 [])))))))))), h⟩ fun σ => evalE M C k52x20 σ (roundQ M C k52x20 1879048326 4 Q)) = (
  letK ((decide ((i30 : Int) < i29)) : Bool) fun b31 =>
  if b31 = true then
    (
    chk (true = true → (0 : Int) ≤ i30 ∧ (i30 : Int) < ((n28 : Nat) : Int)) <|
    atP (adP s28) true fun a32 =>
    gCells (ldN h (Ad.add a32 (Int.toNat i30 * 2)) 2) true fun l33 =>
    gI .i64 (l33[0]?) true fun i33x0 =>
    gI .i64 (l33[1]?) true fun i33x1 =>
    letK ((decide ((i33x0 : Int) ≤ i7)) : Bool) fun b37 =>
    gI .i64 (some (.int .i64 i33x0)) (!b37) fun i40 =>
    gL (some (.sl s2x1 n2x1)) (!b37) fun s42 n42 =>
    letK ((decide ((((n42 : Nat) : Int) : Int) ≤ i40)) : Bool) fun b44 =>
    letK ((if b37 = true then true else b44) : Bool) fun b45 =>
    gI .i64 (some (.int .i64 i33x1)) (!b45) fun i48 =>
    letK ((decide ((i48 : Int) < 0)) : Bool) fun b49 =>
    letK ((if b45 = true then true else b49) : Bool) fun b50 =>
    gI .i64 (some (.int .i64 i33x1)) (!b50) fun i53 =>
    letK ((decide ((i1 : Int) ≤ i53)) : Bool) fun b55 =>
    letK ((if b50 = true then true else b55) : Bool) fun b56 =>
    if b56 = true then
      (
      Q .ret (S52xr 4 h)
      )
    else
      (
      chk (true = true → (0 : Int) ≤ i33x0 ∧ (i33x0 : Int) < ((n2x1 : Nat) : Int)) <|
      atP (adP s2x1) true fun a61 =>
      gCells (ldN h (Ad.add a61 (Int.toNat i33x0 * 6)) 6) true fun l62 =>
      gI .i64 (l62[0]?) true fun i62x0 =>
      gI .i64 (l62[1]?) true fun i62x1 =>
      gI .i64 (l62[2]?) true fun i62x2 =>
      gI .i64 (l62[3]?) true fun i62x3 =>
      gI .i64 (l62[4]?) true fun i62x4 =>
      gI .i64 (l62[5]?) true fun i62x5 =>
      letK ((!decide ((i62x0 : Int) = 20)) : Bool) fun b66 =>
      gI .i64 (some (.int .i64 i62x0)) b66 fun i70 =>
      letK ((!decide ((i70 : Int) = 11)) : Bool) fun b71 =>
      letK ((if b66 = true then b71 else false) : Bool) fun b72 =>
      gI .i64 (some (.int .i64 i62x5)) (!b72) fun i75 =>
      letK ((decide ((0 : Int) ≤ i75)) : Bool) fun b76 =>
      letK ((if b72 = true then true else b76) : Bool) fun b77 =>
      gI .i64 (some (.int .i64 i62x4)) (!b77) fun i81 =>
      letK ((!decide ((i81 : Int) = 0)) : Bool) fun b82 =>
      letK ((if b77 = true then true else b82) : Bool) fun b83 =>
      if b83 = true then
        (
        Q .ret (S52xr 3 h)
        )
      else
        (
        letK ((IntKind.wrap .i64 (i30 + 1)) : Int) fun i86 =>
        L52x20 M C i1 i2x0 s2x1 n2x1 s2x2 n2x2 s2x3 n2x3 i2x4 i33x0 s28 n28 i29 i86 h Q
        )
      )
    )
  else
    (
    Q (.exit 2) (S52xe2 i2x0 s2x1 n2x1 s2x2 n2x2 s2x3 n2x3 i2x4 h)
    )
  ) := by kernel_rfl
theorem L52x20xeq (i1 : Int) (i2x0 : Int) (s2x1 : SA) (n2x1 : Nat) (s2x2 : SA) (n2x2 : Nat) (s2x3 : SA) (n2x3 : Nat) (i2x4 : Int) (i7 : Int) (s28 : SA) (n28 : Nat) (i29 : Int) (i30 : Int) (h : Heap) (Q : Kont R) : L52x20 mk0 C i1 i2x0 s2x1 n2x1 s2x2 n2x2 s2x3 n2x3 i2x4 i7 s28 n28 i29 i30 h Q = (
  letK ((decide ((i30 : Int) < i29)) : Bool) fun b31 =>
  if b31 = true then
    (
    chk (true = true → (0 : Int) ≤ i30 ∧ (i30 : Int) < ((n28 : Nat) : Int)) <|
    atP (adP s28) true fun a32 =>
    gCells (ldN h (Ad.add a32 (Int.toNat i30 * 2)) 2) true fun l33 =>
    gI .i64 (l33[0]?) true fun i33x0 =>
    gI .i64 (l33[1]?) true fun i33x1 =>
    letK ((decide ((i33x0 : Int) ≤ i7)) : Bool) fun b37 =>
    gI .i64 (some (.int .i64 i33x0)) (!b37) fun i40 =>
    gL (some (.sl s2x1 n2x1)) (!b37) fun s42 n42 =>
    letK ((decide ((((n42 : Nat) : Int) : Int) ≤ i40)) : Bool) fun b44 =>
    letK ((if b37 = true then true else b44) : Bool) fun b45 =>
    gI .i64 (some (.int .i64 i33x1)) (!b45) fun i48 =>
    letK ((decide ((i48 : Int) < 0)) : Bool) fun b49 =>
    letK ((if b45 = true then true else b49) : Bool) fun b50 =>
    gI .i64 (some (.int .i64 i33x1)) (!b50) fun i53 =>
    letK ((decide ((i1 : Int) ≤ i53)) : Bool) fun b55 =>
    letK ((if b50 = true then true else b55) : Bool) fun b56 =>
    if b56 = true then
      (
      Q .ret (S52xr 4 h)
      )
    else
      (
      chk (true = true → (0 : Int) ≤ i33x0 ∧ (i33x0 : Int) < ((n2x1 : Nat) : Int)) <|
      atP (adP s2x1) true fun a61 =>
      gCells (ldN h (Ad.add a61 (Int.toNat i33x0 * 6)) 6) true fun l62 =>
      gI .i64 (l62[0]?) true fun i62x0 =>
      gI .i64 (l62[1]?) true fun i62x1 =>
      gI .i64 (l62[2]?) true fun i62x2 =>
      gI .i64 (l62[3]?) true fun i62x3 =>
      gI .i64 (l62[4]?) true fun i62x4 =>
      gI .i64 (l62[5]?) true fun i62x5 =>
      letK ((!decide ((i62x0 : Int) = 20)) : Bool) fun b66 =>
      gI .i64 (some (.int .i64 i62x0)) b66 fun i70 =>
      letK ((!decide ((i70 : Int) = 11)) : Bool) fun b71 =>
      letK ((if b66 = true then b71 else false) : Bool) fun b72 =>
      gI .i64 (some (.int .i64 i62x5)) (!b72) fun i75 =>
      letK ((decide ((0 : Int) ≤ i75)) : Bool) fun b76 =>
      letK ((if b72 = true then true else b76) : Bool) fun b77 =>
      gI .i64 (some (.int .i64 i62x4)) (!b77) fun i81 =>
      letK ((!decide ((i81 : Int) = 0)) : Bool) fun b82 =>
      letK ((if b77 = true then true else b82) : Bool) fun b83 =>
      if b83 = true then
        (
        Q .ret (S52xr 3 h)
        )
      else
        (
        letK ((IntKind.wrap .i64 (i30 + 1)) : Int) fun i86 =>
        L52x20 mk0 C i1 i2x0 s2x1 n2x1 s2x2 n2x2 s2x3 n2x3 i2x4 i33x0 s28 n28 i29 i86 h Q
        )
      )
    )
  else
    (
    Q (.exit 2) (S52xe2 i2x0 s2x1 n2x1 s2x2 n2x2 s2x3 n2x3 i2x4 h)
    )
  ) := loop_eqn C k52x20 1879048326 4 (.any :: (.g [] true (.int .i64 i1) :: (.box [(.int .i64 i2x0), (.sl s2x1 n2x1), (.sl s2x2 n2x2), (.sl s2x3 n2x3), (.int .i64 i2x4)] :: (rep 4 (.g [] true (.int .i64 i7) :: (rep 20 (.g [] true (.sl s28 n28) :: (.g [] true (.int .i64 i29) :: (.g [] true (.int .i64 i30) :: (rep 91 [])))))))))) h Q (by kernel_rfl) (L52x20xaux mk0 C i1 i2x0 s2x1 n2x1 s2x2 n2x2 s2x3 n2x3 i2x4 i7 s28 n28 i29 i30 h Q)
theorem X52x20xr (M : Mk) (C : Cal) (i4 : Int) (h : Heap) : Q52x20 M C .ret (S52xr i4 h) = (
  some ((.int .i64 i4), h)
  ) := by kernel_rfl
theorem X52x20xe2 (M : Mk) (C : Cal) (i2x0 : Int) (s2x1 : SA) (n2x1 : Nat) (s2x2 : SA) (n2x2 : Nat) (s2x3 : SA) (n2x3 : Nat) (i2x4 : Int) (h : Heap) : Q52x20 M C (.exit 2) (S52xe2 i2x0 s2x1 n2x1 s2x2 n2x2 s2x3 n2x3 i2x4 h) = (
  L52x43 M C i2x0 s2x1 n2x1 s2x2 n2x2 s2x3 n2x3 i2x4 (-1) s2x3 n2x3 ((n2x3 : Nat) : Int) 0 h (Q52x43 M C)
  ) := by kernel_rfl
theorem L52x43xaux (i2x0 : Int) (s2x1 : SA) (n2x1 : Nat) (s2x2 : SA) (n2x2 : Nat) (s2x3 : SA) (n2x3 : Nat) (i2x4 : Int) (i7 : Int) (s88 : SA) (n88 : Nat) (i89 : Int) (i90 : Int) (h : Heap) (Q : Kont R) : (restrF 2166395068749415481073467524 ⟨(.any :: .any :: (.box [(.int .i64 i2x0), (.sl s2x1 n2x1), (.sl s2x2 n2x2), (.sl s2x3 n2x3), (.int .i64 i2x4)] :: (rep 4 (.g [] true (.int .i64 i7) :: (rep 80 (.g [] true (.sl s88 n88) :: (.g [] true (.int .i64 i89) :: (.g [] true (.int .i64 i90) :: (rep 31 []))))))))), h⟩ fun σ => evalE M C k52x43 σ (roundQ M C k52x43 2166395068749415481073467524 0 Q)) = (
  letK ((decide ((i90 : Int) < i89)) : Bool) fun b91 =>
  if b91 = true then
    (
    chk (true = true → (0 : Int) ≤ i90 ∧ (i90 : Int) < ((n88 : Nat) : Int)) <|
    atP (adP s88) true fun a92 =>
    gCells (ldN h (Ad.add a92 (Int.toNat i90 * 4)) 4) true fun l93 =>
    gI .i64 (l93[0]?) true fun i93x0 =>
    gB (l93[1]?) true fun b93x1 =>
    gL (l93[2]?) true fun s93x2 n93x2 =>
    gI .i64 (l93[3]?) true fun i93x3 =>
    letK ((decide ((i93x0 : Int) ≤ i7)) : Bool) fun b97 =>
    gI .i64 (some (.int .i64 i93x0)) (!b97) fun i100 =>
    gL (some (.sl s2x1 n2x1)) (!b97) fun s102 n102 =>
    letK ((decide ((((n102 : Nat) : Int) : Int) ≤ i100)) : Bool) fun b104 =>
    letK ((if b97 = true then true else b104) : Bool) fun b105 =>
    gB (some (.bool b93x1)) (!b105) fun b108 =>
    gI .i64 (some (.int .i64 i93x0)) (andB (!b105) b108) fun i111 =>
    letK ((IntKind.wrap .i64 (i111 + 1)) : Int) fun i112 =>
    gL (some (.sl s2x1 n2x1)) (andB (!b105) b108) fun s114 n114 =>
    letK ((decide ((((n114 : Nat) : Int) : Int) ≤ i112)) : Bool) fun b116 =>
    letK ((if b108 = true then b116 else false) : Bool) fun b117 =>
    letK ((if b105 = true then true else b117) : Bool) fun b118 =>
    if b118 = true then
      (
      Q .ret (S52xr 4 h)
      )
    else
      (
      letK ((IntKind.wrap .i64 (i90 + 1)) : Int) fun i121 =>
      L52x43 M C i2x0 s2x1 n2x1 s2x2 n2x2 s2x3 n2x3 i2x4 i93x0 s88 n88 i89 i121 h Q
      )
    )
  else
    (
    Q (.exit 4) (S52xe4 h)
    )
  ) := by kernel_rfl
theorem L52x43xeq (i2x0 : Int) (s2x1 : SA) (n2x1 : Nat) (s2x2 : SA) (n2x2 : Nat) (s2x3 : SA) (n2x3 : Nat) (i2x4 : Int) (i7 : Int) (s88 : SA) (n88 : Nat) (i89 : Int) (i90 : Int) (h : Heap) (Q : Kont R) : L52x43 mk0 C i2x0 s2x1 n2x1 s2x2 n2x2 s2x3 n2x3 i2x4 i7 s88 n88 i89 i90 h Q = (
  letK ((decide ((i90 : Int) < i89)) : Bool) fun b91 =>
  if b91 = true then
    (
    chk (true = true → (0 : Int) ≤ i90 ∧ (i90 : Int) < ((n88 : Nat) : Int)) <|
    atP (adP s88) true fun a92 =>
    gCells (ldN h (Ad.add a92 (Int.toNat i90 * 4)) 4) true fun l93 =>
    gI .i64 (l93[0]?) true fun i93x0 =>
    gB (l93[1]?) true fun b93x1 =>
    gL (l93[2]?) true fun s93x2 n93x2 =>
    gI .i64 (l93[3]?) true fun i93x3 =>
    letK ((decide ((i93x0 : Int) ≤ i7)) : Bool) fun b97 =>
    gI .i64 (some (.int .i64 i93x0)) (!b97) fun i100 =>
    gL (some (.sl s2x1 n2x1)) (!b97) fun s102 n102 =>
    letK ((decide ((((n102 : Nat) : Int) : Int) ≤ i100)) : Bool) fun b104 =>
    letK ((if b97 = true then true else b104) : Bool) fun b105 =>
    gB (some (.bool b93x1)) (!b105) fun b108 =>
    gI .i64 (some (.int .i64 i93x0)) (andB (!b105) b108) fun i111 =>
    letK ((IntKind.wrap .i64 (i111 + 1)) : Int) fun i112 =>
    gL (some (.sl s2x1 n2x1)) (andB (!b105) b108) fun s114 n114 =>
    letK ((decide ((((n114 : Nat) : Int) : Int) ≤ i112)) : Bool) fun b116 =>
    letK ((if b108 = true then b116 else false) : Bool) fun b117 =>
    letK ((if b105 = true then true else b117) : Bool) fun b118 =>
    if b118 = true then
      (
      Q .ret (S52xr 4 h)
      )
    else
      (
      letK ((IntKind.wrap .i64 (i90 + 1)) : Int) fun i121 =>
      L52x43 mk0 C i2x0 s2x1 n2x1 s2x2 n2x2 s2x3 n2x3 i2x4 i93x0 s88 n88 i89 i121 h Q
      )
    )
  else
    (
    Q (.exit 4) (S52xe4 h)
    )
  ) := loop_eqn C k52x43 2166395068749415481073467524 0 (.any :: .any :: (.box [(.int .i64 i2x0), (.sl s2x1 n2x1), (.sl s2x2 n2x2), (.sl s2x3 n2x3), (.int .i64 i2x4)] :: (rep 4 (.g [] true (.int .i64 i7) :: (rep 80 (.g [] true (.sl s88 n88) :: (.g [] true (.int .i64 i89) :: (.g [] true (.int .i64 i90) :: (rep 31 []))))))))) h Q (by kernel_rfl) (L52x43xaux mk0 C i2x0 s2x1 n2x1 s2x2 n2x2 s2x3 n2x3 i2x4 i7 s88 n88 i89 i90 h Q)
theorem X52x43xr (M : Mk) (C : Cal) (i4 : Int) (h : Heap) : Q52x43 M C .ret (S52xr i4 h) = (
  some ((.int .i64 i4), h)
  ) := by kernel_rfl
theorem X52x43xe4 (M : Mk) (C : Cal) (h : Heap) : Q52x43 M C (.exit 4) (S52xe4 h) = (
  some ((.int .i64 0), h)
  ) := by kernel_rfl
def k45x5 : AC := .ret
def k45x4 : AC := .seq (.mask 4) k45x5
def k45x3 : AC := .mask 1
def k45x2 : AC := .seq (.cond (.tmp 9)
   (.seq (.ops false [
      ⟨(some 2), .move (.c (.int .i64 2)), none, []⟩]) k45x4)
   (.skip)) k45x3
def k45x13 : AC := .exit 0
def k45x12 : AC := .mask 7169
def k45x22 : AC := .ret
def k45x21 : AC := .seq (.mask 4) k45x22
def k45x20 : AC := .mask 7185
def k45x19 : AC := .seq (.cond (.tmp 20)
   (.seq (.ops false [
      ⟨(some 21), .move (.tmp 5), none, []⟩,
      ⟨(some 2), .move (.tmp 21), none, []⟩]) k45x21)
   (.skip)) k45x20
def k45x18 : AC := .seq (.ops false [
    ⟨(some 19), .move (.tmp 5), none, []⟩,
    ⟨(some 20), .bin .other .neq (.tmp 19) (.c (.int .i64 0)), none, []⟩]) k45x19
def k45x27 : AC := .ret
def k45x26 : AC := .seq (.mask 4) k45x27
def k45x25 : AC := .mask 7185
def k45x24 : AC := .seq (.cond (.tmp 35)
   (.seq (.ops false [
      ⟨(some 2), .move (.c (.int .i64 4)), none, []⟩]) k45x26)
   (.skip)) k45x25
def k45x32 : AC := .ret
def k45x31 : AC := .seq (.mask 4) k45x32
def k45x30 : AC := .mask 7169
def k45x29 : AC := .seq (.cond (.tmp 41)
   (.seq (.ops false [
      ⟨(some 42), .move (.tmp 6), none, []⟩,
      ⟨(some 2), .move (.tmp 42), none, []⟩]) k45x31)
   (.skip)) k45x30
def k45x28 : AC := .seq (.ops false [
    ⟨(some 40), .move (.tmp 6), none, []⟩,
    ⟨(some 41), .bin .other .neq (.tmp 40) (.c (.int .i64 0)), none, []⟩]) k45x29
def k45x23 : AC := .seq (.ops false [
    ⟨(some 36), .load (.agg [(.int .i64), .sl, .sl, .sl, (.int .i64)]) (.tmp 4), none, []⟩,
    ⟨(some 37), .move (.tmp 0), none, []⟩,
    ⟨(some 38), .lenSl (.tmp 37), none, []⟩,
    ⟨(some 39), .call 52 [(.tmp 36), (.tmp 38)] [(.cell (.int .i64))] (.int .i64 0), none, []⟩,
    ⟨(some 6), .move (.tmp 39), none, []⟩]) k45x28
def k45x17 : AC := .seq (.seq (.ops true [
    ⟨(some 22), .fieldAddr 1 (.tmp 4), none, []⟩,
    ⟨(some 23), .load (.cell .sl) (.tmp 22), none, []⟩,
    ⟨(some 24), .lenSl (.tmp 23), none, []⟩,
    ⟨(some 25), .bin .other .eql (.tmp 24) (.c (.int .i64 0)), none, []⟩,
    ⟨(some 26), .move (.tmp 25), none, []⟩,
    ⟨(some 27), .fieldAddr 4 (.tmp 4), (some (26, false)), []⟩,
    ⟨(some 28), .load (.cell (.int .i64)) (.tmp 27), (some (26, false)), []⟩,
    ⟨(some 29), .bin .other .lss (.tmp 28) (.c (.int .i64 1)), (some (26, false)), []⟩,
    ⟨(some 30), .pick (.tmp 26) (.c (.bool true)) (.tmp 29), none, []⟩,
    ⟨(some 31), .move (.tmp 30), none, []⟩,
    ⟨(some 32), .fieldAddr 4 (.tmp 4), (some (31, false)), []⟩,
    ⟨(some 33), .load (.cell (.int .i64)) (.tmp 32), (some (31, false)), []⟩,
    ⟨(some 34), .bin .other .gtr (.tmp 33) (.c (.int .i64 4096)), (some (31, false)), []⟩,
    ⟨(some 35), .pick (.tmp 31) (.c (.bool true)) (.tmp 34), none, []⟩]) k45x24) k45x23
def k45x16 : AC := .seq (.seq (.ops false [
    ⟨(some 16), .fieldAddr 1 (.tmp 4), none, []⟩,
    ⟨(some 17), .load (.cell .sl) (.tmp 16), none, []⟩,
    ⟨(some 18), .call 44 [(.tmp 17)] [(.cell (.int .i64))] (.int .i64 0), none, []⟩,
    ⟨(some 5), .move (.tmp 18), none, []⟩]) k45x18) k45x17
def k45x15 : AC := .mask 7169
def k45x14 : AC := .ops false [
    ⟨(some 43), .bin .other .add (.tmp 12) (.c (.int .i64 1)), none, []⟩,
    ⟨(some 12), .move (.tmp 43), none, []⟩]
def k45x11 : AC := .seq (.seq (.block 1 (.seq (.ops false [
     ⟨(some 14), .indexAddr 5 (.tmp 10) (.tmp 12), none, []⟩,
     ⟨(some 15), .load (.agg [(.int .i64), .sl, .sl, .sl, (.int .i64)]) (.tmp 14), none, []⟩,
     ⟨(some 4), .allocL [(.int .i64 0), (.sl .nil 0), (.sl .nil 0), (.sl .nil 0), (.int .i64 0)], none, []⟩,
     ⟨none, .store 5 (.tmp 4) (.tmp 15), none, []⟩]) k45x16)) k45x15) k45x14
def k45x10 : AC := .seq (.seq (.cond (.tmp 13)
   (.skip)
   (.seq (.mask 0) k45x13)) k45x12) k45x11
def k45x9 : AC := .seq (.ops false [
    ⟨(some 13), .bin .other .lss (.tmp 12) (.tmp 11), none, []⟩]) k45x10
def k45x8 : AC := .mask 0
def k45x7 : AC := .seq (.block 0 (.loop 7169 0 k45x9)) k45x8
def k45x34 : AC := .ret
def k45x33 : AC := .seq (.mask 4) k45x34
def k45x6 : AC := .seq (.ops false [
    ⟨(some 2), .move (.c (.int .i64 0)), none, []⟩]) k45x33
def k45x1 : AC := .seq (.seq (.ops false [
    ⟨(some 10), .move (.tmp 0), none, []⟩,
    ⟨(some 11), .lenSl (.tmp 10), none, []⟩,
    ⟨(some 12), .move (.c (.int .i64 0)), none, []⟩]) k45x7) k45x6
def k45x0 : AC := .seq (.seq (.ops false [
    ⟨(some 7), .move (.tmp 0), none, []⟩,
    ⟨(some 8), .lenSl (.tmp 7), none, []⟩,
    ⟨(some 9), .bin .other .gtr (.tmp 8) (.c (.int .i64 256)), none, []⟩]) k45x2) k45x1
/-- provenance/link.Check -/
def c45 : AFn := ⟨44, [.tmp 2],
  .seq (.ops false [
    ⟨(some 2), .move (.c (.int .i64 0)), none, []⟩]) k45x0⟩
def S45xr (i2 : Int) (h : Heap) : St := ⟨(.any :: .any :: (.g [] true (.int .i64 i2) :: (rep 41 []))), h⟩
def S45xe0 (h : Heap) : St := ⟨(rep 44 []), h⟩
noncomputable def Q45x9 (M : Mk) (C : Cal) : Kont (AV × Heap) := (blockQ 0 (seqQ (evalE M C k45x8) (seqQ (evalE M C k45x6) (endQ [.tmp 2]))))
noncomputable def L45x9 (s0 : SA) (n0 : Nat) (s10 : SA) (n10 : Nat) (i11 : Int) (i12 : Int) (h : Heap) (Q : Kont R) : Option R := loopE (evalE M C k45x9) 7169 0 ⟨(.g [] true (.sl s0 n0) :: (rep 9 (.g [] true (.sl s10 n10) :: (.g [] true (.int .i64 i11) :: (.g [] true (.int .i64 i12) :: (rep 31 [])))))), h⟩ Q
theorem r45 (s0 : SA) (n0 : Nat) (h : Heap) : runE M C c45 [(.sl s0 n0)] h = (
  letK ((decide ((256 : Int) < ((n0 : Nat) : Int))) : Bool) fun b9 =>
  if b9 = true then
    (
    some ((.int .i64 2), h)
    )
  else
    (
    L45x9 M C s0 n0 s0 n0 ((n0 : Nat) : Int) 0 h (Q45x9 M C)
    )
  ) := by kernel_rfl
theorem cf45 : cFn Try.prog 45 = some c45 := by kernel_rfl
theorem e45 (s0 : SA) (n0 : Nat) (h : Heap) : E 45 [(.sl s0 n0)] h = (
  letK ((decide ((256 : Int) < ((n0 : Nat) : Int))) : Bool) fun b9 =>
  if b9 = true then
    (
    some ((.int .i64 2), h)
    )
  else
    (
    L45x9 mk0 E s0 n0 s0 n0 ((n0 : Nat) : Int) 0 h (Q45x9 mk0 E)
    )
  ) := (EV_eq (P := Try.prog) (T := T0) rfl cf45 [(.sl s0 n0)] h).trans (r45 mk0 E s0 n0 h)
theorem L45x9xaux (s0 : SA) (n0 : Nat) (s10 : SA) (n10 : Nat) (i11 : Int) (i12 : Int) (h : Heap) (Q : Kont R) : (restrF 7169 ⟨(.g [] true (.sl s0 n0) :: (rep 9 (.g [] true (.sl s10 n10) :: (.g [] true (.int .i64 i11) :: (.g [] true (.int .i64 i12) :: (rep 31 [])))))), h⟩ fun σ => evalE M C k45x9 σ (roundQ M C k45x9 7169 0 Q)) = (
  letK ((decide ((i12 : Int) < i11)) : Bool) fun b13 =>
  if b13 = true then
    (
    chk (true = true → (0 : Int) ≤ i12 ∧ (i12 : Int) < ((n10 : Nat) : Int)) <|
    atP (adP s10) true fun a14 =>
    gCells (ldN h (Ad.add a14 (Int.toNat i12 * 5)) 5) true fun l15 =>
    gI .i64 (l15[0]?) true fun i15x0 =>
    gL (l15[1]?) true fun s15x1 n15x1 =>
    gL (l15[2]?) true fun s15x2 n15x2 =>
    gL (l15[3]?) true fun s15x3 n15x3 =>
    gI .i64 (l15[4]?) true fun i15x4 =>
    (C 44 [(.sl s15x1 n15x1)] h).bind fun r18 =>
    gI .i64 (some r18.1) true fun i18 =>
    letK ((!decide ((i18 : Int) = 0)) : Bool) fun b20 =>
    if b20 = true then
      (
      Q .ret (S45xr i18 r18.2)
      )
    else
      (
      letK ((decide ((((n15x1 : Nat) : Int) : Int) = 0)) : Bool) fun b25 =>
      gI .i64 (some (.int .i64 i15x4)) (!b25) fun i28 =>
      letK ((decide ((i28 : Int) < 1)) : Bool) fun b29 =>
      letK ((if b25 = true then true else b29) : Bool) fun b30 =>
      gI .i64 (some (.int .i64 i15x4)) (!b30) fun i33 =>
      letK ((decide ((4096 : Int) < i33)) : Bool) fun b34 =>
      letK ((if b30 = true then true else b34) : Bool) fun b35 =>
      if b35 = true then
        (
        Q .ret (S45xr 4 r18.2)
        )
      else
        (
        (C 52 [(.agg [(.int .i64 i15x0), (.sl s15x1 n15x1), (.sl s15x2 n15x2), (.sl s15x3 n15x3), (.int .i64 i15x4)]), (.int .i64 ((n0 : Nat) : Int))] r18.2).bind fun r39 =>
        gI .i64 (some r39.1) true fun i39 =>
        letK ((!decide ((i39 : Int) = 0)) : Bool) fun b41 =>
        if b41 = true then
          (
          Q .ret (S45xr i39 r39.2)
          )
        else
          (
          letK ((IntKind.wrap .i64 (i12 + 1)) : Int) fun i43 =>
          L45x9 M C s0 n0 s10 n10 i11 i43 r39.2 Q
          )
        )
      )
    )
  else
    (
    Q (.exit 0) (S45xe0 h)
    )
  ) := by kernel_rfl
theorem L45x9xeq (s0 : SA) (n0 : Nat) (s10 : SA) (n10 : Nat) (i11 : Int) (i12 : Int) (h : Heap) (Q : Kont R) : L45x9 mk0 C s0 n0 s10 n10 i11 i12 h Q = (
  letK ((decide ((i12 : Int) < i11)) : Bool) fun b13 =>
  if b13 = true then
    (
    chk (true = true → (0 : Int) ≤ i12 ∧ (i12 : Int) < ((n10 : Nat) : Int)) <|
    atP (adP s10) true fun a14 =>
    gCells (ldN h (Ad.add a14 (Int.toNat i12 * 5)) 5) true fun l15 =>
    gI .i64 (l15[0]?) true fun i15x0 =>
    gL (l15[1]?) true fun s15x1 n15x1 =>
    gL (l15[2]?) true fun s15x2 n15x2 =>
    gL (l15[3]?) true fun s15x3 n15x3 =>
    gI .i64 (l15[4]?) true fun i15x4 =>
    (C 44 [(.sl s15x1 n15x1)] h).bind fun r18 =>
    gI .i64 (some r18.1) true fun i18 =>
    letK ((!decide ((i18 : Int) = 0)) : Bool) fun b20 =>
    if b20 = true then
      (
      Q .ret (S45xr i18 r18.2)
      )
    else
      (
      letK ((decide ((((n15x1 : Nat) : Int) : Int) = 0)) : Bool) fun b25 =>
      gI .i64 (some (.int .i64 i15x4)) (!b25) fun i28 =>
      letK ((decide ((i28 : Int) < 1)) : Bool) fun b29 =>
      letK ((if b25 = true then true else b29) : Bool) fun b30 =>
      gI .i64 (some (.int .i64 i15x4)) (!b30) fun i33 =>
      letK ((decide ((4096 : Int) < i33)) : Bool) fun b34 =>
      letK ((if b30 = true then true else b34) : Bool) fun b35 =>
      if b35 = true then
        (
        Q .ret (S45xr 4 r18.2)
        )
      else
        (
        (C 52 [(.agg [(.int .i64 i15x0), (.sl s15x1 n15x1), (.sl s15x2 n15x2), (.sl s15x3 n15x3), (.int .i64 i15x4)]), (.int .i64 ((n0 : Nat) : Int))] r18.2).bind fun r39 =>
        gI .i64 (some r39.1) true fun i39 =>
        letK ((!decide ((i39 : Int) = 0)) : Bool) fun b41 =>
        if b41 = true then
          (
          Q .ret (S45xr i39 r39.2)
          )
        else
          (
          letK ((IntKind.wrap .i64 (i12 + 1)) : Int) fun i43 =>
          L45x9 mk0 C s0 n0 s10 n10 i11 i43 r39.2 Q
          )
        )
      )
    )
  else
    (
    Q (.exit 0) (S45xe0 h)
    )
  ) := loop_eqn C k45x9 7169 0 (.g [] true (.sl s0 n0) :: (rep 9 (.g [] true (.sl s10 n10) :: (.g [] true (.int .i64 i11) :: (.g [] true (.int .i64 i12) :: (rep 31 [])))))) h Q (by kernel_rfl) (L45x9xaux mk0 C s0 n0 s10 n10 i11 i12 h Q)
theorem X45x9xr (M : Mk) (C : Cal) (i2 : Int) (h : Heap) : Q45x9 M C .ret (S45xr i2 h) = (
  some ((.int .i64 i2), h)
  ) := by kernel_rfl
theorem X45x9xe0 (M : Mk) (C : Cal) (h : Heap) : Q45x9 M C (.exit 0) (S45xe0 h) = (
  some ((.int .i64 0), h)
  ) := by kernel_rfl
def k33x6 : AC := .ret
def k33x5 : AC := .seq (.mask 12) k33x6
def k33x4 : AC := .mask 1
def k33x3 : AC := .seq (.cond (.tmp 12)
   (.seq (.ops false [
      ⟨(some 13), .move (.tmp 4), none, []⟩,
      ⟨(some 2), .move (.c (.sl .nil 0)), none, []⟩,
      ⟨(some 3), .move (.tmp 13), none, []⟩]) k33x5)
   (.skip)) k33x4
def k33x2 : AC := .seq (.ops false [
    ⟨(some 11), .move (.tmp 4), none, []⟩,
    ⟨(some 12), .bin .other .neq (.tmp 11) (.c (.int .i64 0)), none, []⟩]) k33x3
def k33x19 : AC := .exit 2
def k33x18 : AC := .mask 6291553
def k33x30 : AC := .exit 4
def k33x29 : AC := .mask 1616904417
def k33x37 : AC := .exit 4
def k33x36 : AC := .seq (.mask 6291553) k33x37
def k33x35 : AC := .mask 1616904417
def k33x34 : AC := .seq (.cond (.tmp 61)
   (.seq (.ops false [
      ⟨(some 62), .move (.tmp 6), none, []⟩,
      ⟨(some 63), .move (.tmp 7), none, []⟩,
      ⟨(some 64), .move (.tmp 8), none, []⟩,
      ⟨(some 65), .indexAddr 1 (.tmp 62) (.tmp 63), none, []⟩,
      ⟨none, .store 1 (.tmp 65) (.tmp 64), none, []⟩]) k33x36)
   (.skip)) k33x35
def k33x33 : AC := .seq (.ops true [
    ⟨(some 33), .move (.tmp 6), none, []⟩,
    ⟨(some 34), .move (.tmp 8), none, []⟩,
    ⟨(some 35), .indexAddr 1 (.tmp 33) (.tmp 34), none, []⟩,
    ⟨(some 36), .load (.cell (.int .i64)) (.tmp 35), none, []⟩,
    ⟨(some 37), .move (.tmp 8), none, []⟩,
    ⟨(some 38), .bin .other .eql (.tmp 36) (.tmp 37), none, []⟩,
    ⟨(some 39), .move (.tmp 38), none, []⟩,
    ⟨(some 40), .move (.tmp 5), (some (39, true)), []⟩,
    ⟨(some 41), .move (.tmp 7), (some (39, true)), []⟩,
    ⟨(some 42), .indexAddr 1 (.tmp 40) (.tmp 41), (some (39, true)), []⟩,
    ⟨(some 43), .load (.cell (.int .i64)) (.tmp 42), (some (39, true)), []⟩,
    ⟨(some 44), .move (.tmp 5), (some (39, true)), []⟩,
    ⟨(some 45), .move (.tmp 8), (some (39, true)), []⟩,
    ⟨(some 46), .indexAddr 1 (.tmp 44) (.tmp 45), (some (39, true)), []⟩,
    ⟨(some 47), .load (.cell (.int .i64)) (.tmp 46), (some (39, true)), []⟩,
    ⟨(some 48), .bin .other .eql (.tmp 43) (.tmp 47), (some (39, true)), []⟩,
    ⟨(some 49), .pick (.tmp 39) (.tmp 48) (.c (.bool false)), none, []⟩,
    ⟨(some 50), .move (.tmp 49), none, []⟩,
    ⟨(some 51), .move (.tmp 0), (some (50, true)), []⟩,
    ⟨(some 52), .move (.tmp 7), (some (50, true)), []⟩,
    ⟨(some 53), .indexAddr 5 (.tmp 51) (.tmp 52), (some (50, true)), []⟩,
    ⟨(some 54), .load (.agg [(.int .i64), .sl, .sl, .sl, (.int .i64)]) (.tmp 53), (some (50, true)), []⟩,
    ⟨(some 55), .move (.tmp 0), (some (50, true)), []⟩,
    ⟨(some 56), .move (.tmp 8), (some (50, true)), []⟩,
    ⟨(some 57), .indexAddr 5 (.tmp 55) (.tmp 56), (some (50, true)), []⟩,
    ⟨(some 58), .load (.agg [(.int .i64), .sl, .sl, .sl, (.int .i64)]) (.tmp 57), (some (50, true)), []⟩,
    ⟨(some 59), .move (.tmp 5), (some (50, true)), []⟩,
    ⟨(some 60), .call 46 [(.tmp 54), (.tmp 58), (.tmp 59)] [(.cell .bool)] (.bool false), (some (50, true)), []⟩,
    ⟨(some 61), .pick (.tmp 50) (.tmp 60) (.c (.bool false)), none, []⟩]) k33x34
def k33x32 : AC := .mask 1616904417
def k33x31 : AC := .ops false [
    ⟨(some 66), .bin .other .add (.tmp 30) (.c (.int .i64 1)), none, []⟩,
    ⟨(some 30), .move (.tmp 66), none, []⟩]
def k33x28 : AC := .seq (.seq (.block 5 (.seq (.ops false [
     ⟨(some 32), .move (.tmp 30), none, []⟩,
     ⟨(some 8), .move (.tmp 32), none, []⟩]) k33x33)) k33x32) k33x31
def k33x27 : AC := .seq (.seq (.cond (.tmp 31)
   (.skip)
   (.seq (.mask 6291553) k33x30)) k33x29) k33x28
def k33x26 : AC := .seq (.ops false [
    ⟨(some 31), .bin .other .lss (.tmp 30) (.tmp 29), none, []⟩]) k33x27
def k33x25 : AC := .join 6291553
def k33x24 : AC := .seq (.block 4 (.loop 1616904417 6291565 k33x26)) k33x25
def k33x23 : AC := .seq (.ops false [
    ⟨(some 29), .move (.tmp 7), none, []⟩,
    ⟨(some 30), .move (.c (.int .i64 0)), none, []⟩]) k33x24
def k33x22 : AC := .seq (.ops false [
    ⟨(some 25), .move (.tmp 6), none, []⟩,
    ⟨(some 26), .move (.tmp 7), none, []⟩,
    ⟨(some 27), .move (.tmp 7), none, []⟩,
    ⟨(some 28), .indexAddr 1 (.tmp 25) (.tmp 26), none, []⟩,
    ⟨none, .store 1 (.tmp 28) (.tmp 27), none, []⟩]) k33x23
def k33x21 : AC := .mask 6291553
def k33x20 : AC := .ops false [
    ⟨(some 67), .bin .other .add (.tmp 22) (.c (.int .i64 1)), none, []⟩,
    ⟨(some 22), .move (.tmp 67), none, []⟩]
def k33x17 : AC := .seq (.seq (.block 3 (.seq (.ops false [
     ⟨(some 24), .move (.tmp 22), none, []⟩,
     ⟨(some 7), .move (.tmp 24), none, []⟩]) k33x22)) k33x21) k33x20
def k33x16 : AC := .seq (.seq (.cond (.tmp 23)
   (.skip)
   (.seq (.mask 97) k33x19)) k33x18) k33x17
def k33x15 : AC := .seq (.ops false [
    ⟨(some 23), .bin .other .lss (.tmp 22) (.tmp 21), none, []⟩]) k33x16
def k33x14 : AC := .mask 97
def k33x13 : AC := .seq (.block 2 (.loop 6291553 109 k33x15)) k33x14
def k33x43 : AC := .ret
def k33x42 : AC := .seq (.mask 12) k33x43
def k33x41 : AC := .mask 65
def k33x40 : AC := .seq (.cond (.tmp 70)
   (.seq (.ops false [
      ⟨(some 71), .move (.tmp 5), none, []⟩,
      ⟨(some 2), .move (.tmp 71), none, []⟩,
      ⟨(some 3), .move (.c (.int .i64 0)), none, []⟩]) k33x42)
   (.skip)) k33x41
def k33x39 : AC := .ops false [
    ⟨(some 72), .move (.tmp 6), none, []⟩,
    ⟨(some 5), .move (.tmp 72), none, []⟩]
def k33x12 : AC := .seq (.seq (.ops false [
    ⟨(some 68), .move (.tmp 6), none, []⟩,
    ⟨(some 69), .move (.tmp 5), none, []⟩,
    ⟨(some 70), .call 26 [(.tmp 68), (.tmp 69)] [(.cell .bool)] (.bool false), none, []⟩]) k33x40) k33x39
def k33x11 : AC := .seq (.seq (.ops false [
    ⟨(some 20), .move (.tmp 0), none, []⟩,
    ⟨(some 21), .lenSl (.tmp 20), none, []⟩,
    ⟨(some 22), .move (.c (.int .i64 0)), none, []⟩]) k33x13) k33x12
def k33x10 : AC := .mask 33
def k33x9 : AC := .seq (.block 1 (.seq (.ops false [
     ⟨(some 17), .move (.tmp 0), none, []⟩,
     ⟨(some 18), .lenSl (.tmp 17), none, []⟩,
     ⟨(some 19), .makeSl [(.int .i64 0)] 8 (.tmp 18) (.tmp 18), none, []⟩,
     ⟨(some 6), .move (.tmp 19), none, []⟩]) k33x11)) k33x10
def k33x8 : AC := .mask 12
def k33x7 : AC := .seq (.block 0 (.loop 33 12 k33x9)) k33x8
def k33x1 : AC := .seq (.ops false [
    ⟨(some 14), .move (.tmp 0), none, []⟩,
    ⟨(some 15), .lenSl (.tmp 14), none, []⟩,
    ⟨(some 16), .makeSl [(.int .i64 0)] 8 (.tmp 15) (.tmp 15), none, []⟩,
    ⟨(some 5), .move (.tmp 16), none, []⟩]) k33x7
def k33x0 : AC := .seq (.seq (.ops false [
    ⟨(some 9), .move (.tmp 0), none, []⟩,
    ⟨(some 10), .call 45 [(.tmp 9)] [(.cell (.int .i64))] (.int .i64 0), none, []⟩,
    ⟨(some 4), .move (.tmp 10), none, []⟩]) k33x2) k33x1
/-- provenance/link.Merge -/
def c33 : AFn := ⟨73, [.tmp 2, .tmp 3],
  .seq (.ops false [
    ⟨(some 2), .move (.c (.sl .nil 0)), none, []⟩,
    ⟨(some 3), .move (.c (.int .i64 0)), none, []⟩]) k33x0⟩
def S33xe2 (s0 : SA) (n0 : Nat) (s5 : SA) (n5 : Nat) (s6 : SA) (n6 : Nat) (h : Heap) : St := ⟨(.g [] true (.sl s0 n0) :: (rep 4 (.g [] true (.sl s5 n5) :: (.g [] true (.sl s6 n6) :: (rep 66 []))))), h⟩
def S33xe4 (s0 : SA) (n0 : Nat) (s5 : SA) (n5 : Nat) (s6 : SA) (n6 : Nat) (i21 : Int) (i22 : Int) (h : Heap) : St := ⟨(.g [] true (.sl s0 n0) :: (rep 4 (.g [] true (.sl s5 n5) :: (.g [] true (.sl s6 n6) :: (rep 14 (.g [] true (.int .i64 i21) :: (.g [] true (.int .i64 i22) :: (rep 50 [])))))))), h⟩
def S33xr (s2 : SA) (n2 : Nat) (i3 : Int) (h : Heap) : St := ⟨(.any :: .any :: (.g [] true (.sl s2 n2) :: (.g [] true (.int .i64 i3) :: (rep 69 [])))), h⟩
noncomputable def Q33x9 (M : Mk) (C : Cal) : Kont (AV × Heap) := (blockQ 0 (seqQ (evalE M C k33x8) (endQ [.tmp 2, .tmp 3])))
noncomputable def L33x9 (s0 : SA) (n0 : Nat) (s5 : SA) (n5 : Nat) (h : Heap) (Q : Kont R) : Option R := loopE (evalE M C k33x9) 33 12 ⟨(.g [] true (.sl s0 n0) :: (rep 4 (.g [] true (.sl s5 n5) :: (rep 67 [])))), h⟩ Q
noncomputable def Q33x15 (M : Mk) (C : Cal) (Q : Kont R) : Kont R := (blockQ 2 (seqQ (evalE M C k33x14) (seqQ (evalE M C k33x12) (blockQ 1 (seqQ (evalE M C k33x10) (roundQ M C k33x9 33 12 Q))))))
noncomputable def L33x15 (s0 : SA) (n0 : Nat) (s5 : SA) (n5 : Nat) (s6 : SA) (n6 : Nat) (i21 : Int) (i22 : Int) (h : Heap) (Q : Kont R) : Option R := loopE (evalE M C k33x15) 6291553 109 ⟨(.g [] true (.sl s0 n0) :: (rep 4 (.g [] true (.sl s5 n5) :: (.g [] true (.sl s6 n6) :: (rep 14 (.g [] true (.int .i64 i21) :: (.g [] true (.int .i64 i22) :: (rep 50 [])))))))), h⟩ Q
noncomputable def Q33x26 (M : Mk) (C : Cal) (Q : Kont R) : Kont R := (blockQ 4 (seqQ (evalE M C k33x25) (blockQ 3 (seqQ (evalE M C k33x21) (seqQ (evalE M C k33x20) (roundQ M C k33x15 6291553 109 Q))))))
noncomputable def L33x26 (s0 : SA) (n0 : Nat) (s5 : SA) (n5 : Nat) (s6 : SA) (n6 : Nat) (i7 : Int) (i21 : Int) (i22 : Int) (i29 : Int) (i30 : Int) (h : Heap) (Q : Kont R) : Option R := loopE (evalE M C k33x26) 1616904417 6291565 ⟨(.g [] true (.sl s0 n0) :: (rep 4 (.g [] true (.sl s5 n5) :: (.g [] true (.sl s6 n6) :: (.g [] true (.int .i64 i7) :: (rep 13 (.g [] true (.int .i64 i21) :: (.g [] true (.int .i64 i22) :: (rep 6 (.g [] true (.int .i64 i29) :: (.g [] true (.int .i64 i30) :: (rep 42 [])))))))))))), h⟩ Q
noncomputable def J33x38 (M : Mk) (C : Cal) (s0 : SA) (n0 : Nat) (s5 : SA) (n5 : Nat) (s6 : SA) (n6 : Nat) (i21 : Int) (i22 : Int) (h : Heap) (Q : Kont R) : Option R := M R (blockQ 3 (seqQ (evalE M C k33x21) (seqQ (evalE M C k33x20) (roundQ M C k33x15 6291553 109 Q)))) (.g [] true (.sl s0 n0) :: (rep 4 (.g [] true (.sl s5 n5) :: (.g [] true (.sl s6 n6) :: (rep 14 (.g [] true (.int .i64 i21) :: (.g [] true (.int .i64 i22) :: (rep 50 [])))))))) h
theorem r33 (s0 : SA) (n0 : Nat) (h : Heap) : runE M C c33 [(.sl s0 n0)] h = (
  (C 45 [(.sl s0 n0)] h).bind fun r10 =>
  gI .i64 (some r10.1) true fun i10 =>
  letK ((!decide ((i10 : Int) = 0)) : Bool) fun b12 =>
  if b12 = true then
    (
    some (.tup [(.sl .nil 0), (.int .i64 i10)], r10.2)
    )
  else
    (
    chk ((0 : Int) ≤ ((n0 : Nat) : Int) ∧ (((n0 : Nat) : Int) : Int) ≤ ((n0 : Nat) : Int) ∧ ((n0 : Nat) : Int) * ((8 : Nat) : Int) ≤ 70368744177664) <|
    newK r10.2 (.cells (repl (Int.toNat ((n0 : Nat) : Int)) [(.int .i64 0)]) (.grow 1) 0) fun h_2 =>
    letK ((Int.toNat ((n0 : Nat) : Int)) : Nat) fun n16 =>
    L33x9 M C s0 n0 (.pos ⟨List.length r10.2, 0, 0⟩) n16 h_2 (Q33x9 M C)
    )
  ) := by kernel_rfl
theorem cf33 : cFn Try.prog 33 = some c33 := by kernel_rfl
theorem e33 (s0 : SA) (n0 : Nat) (h : Heap) : E 33 [(.sl s0 n0)] h = (
  (E 45 [(.sl s0 n0)] h).bind fun r10 =>
  gI .i64 (some r10.1) true fun i10 =>
  letK ((!decide ((i10 : Int) = 0)) : Bool) fun b12 =>
  if b12 = true then
    (
    some (.tup [(.sl .nil 0), (.int .i64 i10)], r10.2)
    )
  else
    (
    chk ((0 : Int) ≤ ((n0 : Nat) : Int) ∧ (((n0 : Nat) : Int) : Int) ≤ ((n0 : Nat) : Int) ∧ ((n0 : Nat) : Int) * ((8 : Nat) : Int) ≤ 70368744177664) <|
    newK r10.2 (.cells (repl (Int.toNat ((n0 : Nat) : Int)) [(.int .i64 0)]) (.grow 1) 0) fun h_2 =>
    letK ((Int.toNat ((n0 : Nat) : Int)) : Nat) fun n16 =>
    L33x9 mk0 E s0 n0 (.pos ⟨List.length r10.2, 0, 0⟩) n16 h_2 (Q33x9 mk0 E)
    )
  ) := (EV_eq (P := Try.prog) (T := T0) rfl cf33 [(.sl s0 n0)] h).trans (r33 mk0 E s0 n0 h)
theorem L33x9xaux (s0 : SA) (n0 : Nat) (s5 : SA) (n5 : Nat) (h : Heap) (Q : Kont R) : (restrF 33 ⟨(.g [] true (.sl s0 n0) :: (rep 4 (.g [] true (.sl s5 n5) :: (rep 67 [])))), h⟩ fun σ => evalE M C k33x9 σ (roundQ M C k33x9 33 12 Q)) = (
  chk ((0 : Int) ≤ ((n0 : Nat) : Int) ∧ (((n0 : Nat) : Int) : Int) ≤ ((n0 : Nat) : Int) ∧ ((n0 : Nat) : Int) * ((8 : Nat) : Int) ≤ 70368744177664) <|
  newK h (.cells (repl (Int.toNat ((n0 : Nat) : Int)) [(.int .i64 0)]) (.grow 1) 0) fun h_2 =>
  letK ((Int.toNat ((n0 : Nat) : Int)) : Nat) fun n19 =>
  L33x15 M C s0 n0 s5 n5 (.pos ⟨List.length h, 0, 0⟩) n19 ((n0 : Nat) : Int) 0 h_2 (Q33x15 M C Q)
  ) := by kernel_rfl
theorem L33x9xeq (s0 : SA) (n0 : Nat) (s5 : SA) (n5 : Nat) (h : Heap) (Q : Kont R) : L33x9 mk0 C s0 n0 s5 n5 h Q = (
  chk ((0 : Int) ≤ ((n0 : Nat) : Int) ∧ (((n0 : Nat) : Int) : Int) ≤ ((n0 : Nat) : Int) ∧ ((n0 : Nat) : Int) * ((8 : Nat) : Int) ≤ 70368744177664) <|
  newK h (.cells (repl (Int.toNat ((n0 : Nat) : Int)) [(.int .i64 0)]) (.grow 1) 0) fun h_2 =>
  letK ((Int.toNat ((n0 : Nat) : Int)) : Nat) fun n19 =>
  L33x15 mk0 C s0 n0 s5 n5 (.pos ⟨List.length h, 0, 0⟩) n19 ((n0 : Nat) : Int) 0 h_2 (Q33x15 mk0 C Q)
  ) := loop_eqn C k33x9 33 12 (.g [] true (.sl s0 n0) :: (rep 4 (.g [] true (.sl s5 n5) :: (rep 67 [])))) h Q (by kernel_rfl) (L33x9xaux mk0 C s0 n0 s5 n5 h Q)
theorem L33x15xaux (s0 : SA) (n0 : Nat) (s5 : SA) (n5 : Nat) (s6 : SA) (n6 : Nat) (i21 : Int) (i22 : Int) (h : Heap) (Q : Kont R) : (restrF 6291553 ⟨(.g [] true (.sl s0 n0) :: (rep 4 (.g [] true (.sl s5 n5) :: (.g [] true (.sl s6 n6) :: (rep 14 (.g [] true (.int .i64 i21) :: (.g [] true (.int .i64 i22) :: (rep 50 [])))))))), h⟩ fun σ => evalE M C k33x15 σ (roundQ M C k33x15 6291553 109 Q)) = (
  letK ((decide ((i22 : Int) < i21)) : Bool) fun b23 =>
  if b23 = true then
    (
    chk (true = true → (0 : Int) ≤ i22 ∧ (i22 : Int) < ((n6 : Nat) : Int)) <|
    atP (adP s6) true fun a28 =>
    (st1 h (Ad.add a28 (Int.toNat i22 * 1)) (.int .i64 i22)).bind fun h_2 =>
    L33x26 M C s0 n0 s5 n5 s6 n6 i22 i21 i22 i22 0 h_2 (Q33x26 M C Q)
    )
  else
    (
    Q (.exit 2) (S33xe2 s0 n0 s5 n5 s6 n6 h)
    )
  ) := by kernel_rfl
theorem L33x15xeq (s0 : SA) (n0 : Nat) (s5 : SA) (n5 : Nat) (s6 : SA) (n6 : Nat) (i21 : Int) (i22 : Int) (h : Heap) (Q : Kont R) : L33x15 mk0 C s0 n0 s5 n5 s6 n6 i21 i22 h Q = (
  letK ((decide ((i22 : Int) < i21)) : Bool) fun b23 =>
  if b23 = true then
    (
    chk (true = true → (0 : Int) ≤ i22 ∧ (i22 : Int) < ((n6 : Nat) : Int)) <|
    atP (adP s6) true fun a28 =>
    (st1 h (Ad.add a28 (Int.toNat i22 * 1)) (.int .i64 i22)).bind fun h_2 =>
    L33x26 mk0 C s0 n0 s5 n5 s6 n6 i22 i21 i22 i22 0 h_2 (Q33x26 mk0 C Q)
    )
  else
    (
    Q (.exit 2) (S33xe2 s0 n0 s5 n5 s6 n6 h)
    )
  ) := loop_eqn C k33x15 6291553 109 (.g [] true (.sl s0 n0) :: (rep 4 (.g [] true (.sl s5 n5) :: (.g [] true (.sl s6 n6) :: (rep 14 (.g [] true (.int .i64 i21) :: (.g [] true (.int .i64 i22) :: (rep 50 [])))))))) h Q (by kernel_rfl) (L33x15xaux mk0 C s0 n0 s5 n5 s6 n6 i21 i22 h Q)
theorem L33x26xaux (s0 : SA) (n0 : Nat) (s5 : SA) (n5 : Nat) (s6 : SA) (n6 : Nat) (i7 : Int) (i21 : Int) (i22 : Int) (i29 : Int) (i30 : Int) (h : Heap) (Q : Kont R) : (restrF 1616904417 ⟨(.g [] true (.sl s0 n0) :: (rep 4 (.g [] true (.sl s5 n5) :: (.g [] true (.sl s6 n6) :: (.g [] true (.int .i64 i7) :: (rep 13 (.g [] true (.int .i64 i21) :: (.g [] true (.int .i64 i22) :: (rep 6 (.g [] true (.int .i64 i29) :: (.g [] true (.int .i64 i30) :: (rep 42 [])))))))))))), h⟩ fun σ => evalE M C k33x26 σ (roundQ M C k33x26 1616904417 6291565 Q)) = (
  letK ((decide ((i30 : Int) < i29)) : Bool) fun b31 =>
  if b31 = true then
    (
    chk (true = true → (0 : Int) ≤ i30 ∧ (i30 : Int) < ((n6 : Nat) : Int)) <|
    atP (adP s6) true fun a35 =>
    gI .i64 (ld1 h (Ad.add a35 (Int.toNat i30 * 1))) true fun i36 =>
    letK ((decide ((i36 : Int) = i30)) : Bool) fun b38 =>
    chk (b38 = true → (0 : Int) ≤ i7 ∧ (i7 : Int) < ((n5 : Nat) : Int)) <|
    atP (adP s5) b38 fun a42 =>
    atP (some (Ad.add a42 (Int.toNat i7 * 1))) b38 fun a43 =>
    gI .i64 (ld1 h a43) b38 fun i43 =>
    chk (b38 = true → (0 : Int) ≤ i30 ∧ (i30 : Int) < ((n5 : Nat) : Int)) <|
    atP (adP s5) b38 fun a46 =>
    atP (some (Ad.add a46 (Int.toNat i30 * 1))) b38 fun a47 =>
    gI .i64 (ld1 h a47) b38 fun i47 =>
    letK ((decide ((i43 : Int) = i47)) : Bool) fun b48 =>
    letK ((if b38 = true then b48 else false) : Bool) fun b49 =>
    chk (b49 = true → (0 : Int) ≤ i7 ∧ (i7 : Int) < ((n0 : Nat) : Int)) <|
    atP (adP s0) b49 fun a53 =>
    atP (some (Ad.add a53 (Int.toNat i7 * 5))) b49 fun a54 =>
    gCells (ldN h a54 5) b49 fun l54 =>
    gI .i64 (l54[0]?) b49 fun i54x0 =>
    gL (l54[1]?) b49 fun s54x1 n54x1 =>
    gL (l54[2]?) b49 fun s54x2 n54x2 =>
    gL (l54[3]?) b49 fun s54x3 n54x3 =>
    gI .i64 (l54[4]?) b49 fun i54x4 =>
    chk (b49 = true → (0 : Int) ≤ i30 ∧ (i30 : Int) < ((n0 : Nat) : Int)) <|
    atP (adP s0) b49 fun a57 =>
    atP (some (Ad.add a57 (Int.toNat i30 * 5))) b49 fun a58 =>
    gCells (ldN h a58 5) b49 fun l58 =>
    gI .i64 (l58[0]?) b49 fun i58x0 =>
    gL (l58[1]?) b49 fun s58x1 n58x1 =>
    gL (l58[2]?) b49 fun s58x2 n58x2 =>
    gL (l58[3]?) b49 fun s58x3 n58x3 =>
    gI .i64 (l58[4]?) b49 fun i58x4 =>
    (callO b49 (C 46 [(.agg [(.int .i64 i54x0), (.sl s54x1 n54x1), (.sl s54x2 n54x2), (.sl s54x3 n54x3), (.int .i64 i54x4)]), (.agg [(.int .i64 i58x0), (.sl s58x1 n58x1), (.sl s58x2 n58x2), (.sl s58x3 n58x3), (.int .i64 i58x4)]), (.sl s5 n5)] h) (.bool false) h).bind fun r60 =>
    gB (some r60.1) b49 fun b60 =>
    letK ((if b49 = true then b60 else false) : Bool) fun b61 =>
    if b61 = true then
      (
      chk (true = true → (0 : Int) ≤ i7 ∧ (i7 : Int) < ((n6 : Nat) : Int)) <|
      atP (adP s6) true fun a65 =>
      (st1 r60.2 (Ad.add a65 (Int.toNat i7 * 1)) (.int .i64 i30)).bind fun h_2 =>
      Q (.exit 4) (S33xe4 s0 n0 s5 n5 s6 n6 i21 i22 h_2)
      )
    else
      (
      letK ((IntKind.wrap .i64 (i30 + 1)) : Int) fun i66 =>
      L33x26 M C s0 n0 s5 n5 s6 n6 i7 i21 i22 i29 i66 r60.2 Q
      )
    )
  else
    (
    Q (.exit 4) (S33xe4 s0 n0 s5 n5 s6 n6 i21 i22 h)
    )
  ) := by kernel_rfl
theorem L33x26xeq (s0 : SA) (n0 : Nat) (s5 : SA) (n5 : Nat) (s6 : SA) (n6 : Nat) (i7 : Int) (i21 : Int) (i22 : Int) (i29 : Int) (i30 : Int) (h : Heap) (Q : Kont R) : L33x26 mk0 C s0 n0 s5 n5 s6 n6 i7 i21 i22 i29 i30 h Q = (
  letK ((decide ((i30 : Int) < i29)) : Bool) fun b31 =>
  if b31 = true then
    (
    chk (true = true → (0 : Int) ≤ i30 ∧ (i30 : Int) < ((n6 : Nat) : Int)) <|
    atP (adP s6) true fun a35 =>
    gI .i64 (ld1 h (Ad.add a35 (Int.toNat i30 * 1))) true fun i36 =>
    letK ((decide ((i36 : Int) = i30)) : Bool) fun b38 =>
    chk (b38 = true → (0 : Int) ≤ i7 ∧ (i7 : Int) < ((n5 : Nat) : Int)) <|
    atP (adP s5) b38 fun a42 =>
    atP (some (Ad.add a42 (Int.toNat i7 * 1))) b38 fun a43 =>
    gI .i64 (ld1 h a43) b38 fun i43 =>
    chk (b38 = true → (0 : Int) ≤ i30 ∧ (i30 : Int) < ((n5 : Nat) : Int)) <|
    atP (adP s5) b38 fun a46 =>
    atP (some (Ad.add a46 (Int.toNat i30 * 1))) b38 fun a47 =>
    gI .i64 (ld1 h a47) b38 fun i47 =>
    letK ((decide ((i43 : Int) = i47)) : Bool) fun b48 =>
    letK ((if b38 = true then b48 else false) : Bool) fun b49 =>
    chk (b49 = true → (0 : Int) ≤ i7 ∧ (i7 : Int) < ((n0 : Nat) : Int)) <|
    atP (adP s0) b49 fun a53 =>
    atP (some (Ad.add a53 (Int.toNat i7 * 5))) b49 fun a54 =>
    gCells (ldN h a54 5) b49 fun l54 =>
    gI .i64 (l54[0]?) b49 fun i54x0 =>
    gL (l54[1]?) b49 fun s54x1 n54x1 =>
    gL (l54[2]?) b49 fun s54x2 n54x2 =>
    gL (l54[3]?) b49 fun s54x3 n54x3 =>
    gI .i64 (l54[4]?) b49 fun i54x4 =>
    chk (b49 = true → (0 : Int) ≤ i30 ∧ (i30 : Int) < ((n0 : Nat) : Int)) <|
    atP (adP s0) b49 fun a57 =>
    atP (some (Ad.add a57 (Int.toNat i30 * 5))) b49 fun a58 =>
    gCells (ldN h a58 5) b49 fun l58 =>
    gI .i64 (l58[0]?) b49 fun i58x0 =>
    gL (l58[1]?) b49 fun s58x1 n58x1 =>
    gL (l58[2]?) b49 fun s58x2 n58x2 =>
    gL (l58[3]?) b49 fun s58x3 n58x3 =>
    gI .i64 (l58[4]?) b49 fun i58x4 =>
    (callO b49 (C 46 [(.agg [(.int .i64 i54x0), (.sl s54x1 n54x1), (.sl s54x2 n54x2), (.sl s54x3 n54x3), (.int .i64 i54x4)]), (.agg [(.int .i64 i58x0), (.sl s58x1 n58x1), (.sl s58x2 n58x2), (.sl s58x3 n58x3), (.int .i64 i58x4)]), (.sl s5 n5)] h) (.bool false) h).bind fun r60 =>
    gB (some r60.1) b49 fun b60 =>
    letK ((if b49 = true then b60 else false) : Bool) fun b61 =>
    if b61 = true then
      (
      chk (true = true → (0 : Int) ≤ i7 ∧ (i7 : Int) < ((n6 : Nat) : Int)) <|
      atP (adP s6) true fun a65 =>
      (st1 r60.2 (Ad.add a65 (Int.toNat i7 * 1)) (.int .i64 i30)).bind fun h_2 =>
      Q (.exit 4) (S33xe4 s0 n0 s5 n5 s6 n6 i21 i22 h_2)
      )
    else
      (
      letK ((IntKind.wrap .i64 (i30 + 1)) : Int) fun i66 =>
      L33x26 mk0 C s0 n0 s5 n5 s6 n6 i7 i21 i22 i29 i66 r60.2 Q
      )
    )
  else
    (
    Q (.exit 4) (S33xe4 s0 n0 s5 n5 s6 n6 i21 i22 h)
    )
  ) := loop_eqn C k33x26 1616904417 6291565 (.g [] true (.sl s0 n0) :: (rep 4 (.g [] true (.sl s5 n5) :: (.g [] true (.sl s6 n6) :: (.g [] true (.int .i64 i7) :: (rep 13 (.g [] true (.int .i64 i21) :: (.g [] true (.int .i64 i22) :: (rep 6 (.g [] true (.int .i64 i29) :: (.g [] true (.int .i64 i30) :: (rep 42 [])))))))))))) h Q (by kernel_rfl) (L33x26xaux mk0 C s0 n0 s5 n5 s6 n6 i7 i21 i22 i29 i30 h Q)
theorem X33x15xe2 (M : Mk) (C : Cal) (s0 : SA) (n0 : Nat) (s5 : SA) (n5 : Nat) (s6 : SA) (n6 : Nat) (h : Heap) (Q : Kont R) : Q33x15 M C Q (.exit 2) (S33xe2 s0 n0 s5 n5 s6 n6 h) = (
  (C 26 [(.sl s6 n6), (.sl s5 n5)] h).bind fun r70 =>
  gB (some r70.1) true fun b70 =>
  if b70 = true then
    (
    Q .ret (S33xr s5 n5 0 r70.2)
    )
  else
    (
    L33x9 M C s0 n0 s6 n6 r70.2 Q
    )
  ) := by kernel_rfl
theorem X33x9xr (M : Mk) (C : Cal) (s2 : SA) (n2 : Nat) (i3 : Int) (h : Heap) : Q33x9 M C .ret (S33xr s2 n2 i3 h) = (
  some (.tup [(.sl s2 n2), (.int .i64 i3)], h)
  ) := by kernel_rfl
theorem X33x26xe4 (M : Mk) (C : Cal) (s0 : SA) (n0 : Nat) (s5 : SA) (n5 : Nat) (s6 : SA) (n6 : Nat) (i21 : Int) (i22 : Int) (h : Heap) (Q : Kont R) : Q33x26 M C Q (.exit 4) (S33xe4 s0 n0 s5 n5 s6 n6 i21 i22 h) = (
  J33x38 M C s0 n0 s5 n5 s6 n6 i21 i22 h Q
  ) := by kernel_rfl
theorem J33x38xaux (M : Mk) (C : Cal) (s0 : SA) (n0 : Nat) (s5 : SA) (n5 : Nat) (s6 : SA) (n6 : Nat) (i21 : Int) (i22 : Int) (h : Heap) (Q : Kont R) : (forceK tk (.g [] true (.sl s0 n0) :: (rep 4 (.g [] true (.sl s5 n5) :: (.g [] true (.sl s6 n6) :: (rep 14 (.g [] true (.int .i64 i21) :: (.g [] true (.int .i64 i22) :: (rep 50 [])))))))) fun e => (blockQ 3 (seqQ (evalE M C k33x21) (seqQ (evalE M C k33x20) (roundQ M C k33x15 6291553 109 Q)))) .normal ⟨e, h⟩) = (
  letK ((IntKind.wrap .i64 (i22 + 1)) : Int) fun i67 =>
  L33x15 M C s0 n0 s5 n5 s6 n6 i21 i67 h Q
  ) := by kernel_rfl
theorem J33x38xeq (C : Cal) (s0 : SA) (n0 : Nat) (s5 : SA) (n5 : Nat) (s6 : SA) (n6 : Nat) (i21 : Int) (i22 : Int) (h : Heap) (Q : Kont R) : J33x38 mk0 C s0 n0 s5 n5 s6 n6 i21 i22 h Q = (
  letK ((IntKind.wrap .i64 (i22 + 1)) : Int) fun i67 =>
  L33x15 mk0 C s0 n0 s5 n5 s6 n6 i21 i67 h Q
  ) := join_eqn (blockQ 3 (seqQ (evalE mk0 C k33x21) (seqQ (evalE mk0 C k33x20) (roundQ mk0 C k33x15 6291553 109 Q)))) (.g [] true (.sl s0 n0) :: (rep 4 (.g [] true (.sl s5 n5) :: (.g [] true (.sl s6 n6) :: (rep 14 (.g [] true (.int .i64 i21) :: (.g [] true (.int .i64 i22) :: (rep 50 [])))))))) h (J33x38xaux mk0 C s0 n0 s5 n5 s6 n6 i21 i22 h Q)
def k34x5 : AC := .ret
def k34x4 : AC := .seq (.mask 4) k34x5
def k34x3 : AC := .mask 1
def k34x2 : AC := .seq (.cond (.tmp 4)
   (.seq (.ops false [
      ⟨(some 2), .move (.c (.sl .nil 0)), none, []⟩]) k34x4)
   (.skip)) k34x3
def k34x7 : AC := .ret
def k34x6 : AC := .seq (.mask 4) k34x7
def k34x1 : AC := .seq (.ops false [
    ⟨(some 5), .buildSl [] 2 [], none, []⟩,
    ⟨(some 6), .move (.tmp 0), none, []⟩,
    ⟨(some 7), .append [(.int .i64 0), (.int .i64 0)] 2 16 (.tmp 5) (.tmp 6), none, []⟩,
    ⟨(some 2), .move (.tmp 7), none, []⟩]) k34x6
def k34x0 : AC := .seq (.seq (.ops false [
    ⟨(some 3), .move (.tmp 0), none, []⟩,
    ⟨(some 4), .bin .sl .eql (.tmp 3) (.c (.sl .nil 0)), none, []⟩]) k34x2) k34x1
/-- slices.Clone[[]provenance/api.LinkCall,provenance/api.LinkCall] -/
def c34 : AFn := ⟨8, [.tmp 2],
  .seq (.ops false [
    ⟨(some 2), .move (.c (.sl .nil 0)), none, []⟩]) k34x0⟩
theorem r34 (s0 : SA) (n0 : Nat) (h : Heap) : runE M C c34 [(.sl s0 n0)] h = (
  if (SA.isNil s0) = true then
    (
    some ((.sl .nil 0), h)
    )
  else
    (
    newK h (.cells [] (.grow 2) 0) fun h_2 =>
    (ldSl h_2 s0 (n0 * 2)).bind fun y7 =>
    (apnd h_2 (.sl (.pos ⟨List.length h, 0, 0⟩) 0) 2 16 y7 n0).bind fun r7 =>
    gL (some r7.1) true fun s7 n7 =>
    some ((.sl s7 n7), r7.2)
    )
  ) := by kernel_rfl
theorem cf34 : cFn Try.prog 34 = some c34 := by kernel_rfl
theorem e34 (s0 : SA) (n0 : Nat) (h : Heap) : E 34 [(.sl s0 n0)] h = (
  if (SA.isNil s0) = true then
    (
    some ((.sl .nil 0), h)
    )
  else
    (
    newK h (.cells [] (.grow 2) 0) fun h_2 =>
    (ldSl h_2 s0 (n0 * 2)).bind fun y7 =>
    (apnd h_2 (.sl (.pos ⟨List.length h, 0, 0⟩) 0) 2 16 y7 n0).bind fun r7 =>
    gL (some r7.1) true fun s7 n7 =>
    some ((.sl s7 n7), r7.2)
    )
  ) := (EV_eq (P := Try.prog) (T := T0) rfl cf34 [(.sl s0 n0)] h).trans (r34 mk0 E s0 n0 h)
def k59x5 : AC := .ret
def k59x4 : AC := .seq (.mask 4) k59x5
def k59x3 : AC := .mask 1
def k59x2 : AC := .seq (.cond (.tmp 4)
   (.seq (.ops false [
      ⟨(some 2), .move (.c (.sl .nil 0)), none, []⟩]) k59x4)
   (.skip)) k59x3
def k59x7 : AC := .ret
def k59x6 : AC := .seq (.mask 4) k59x7
def k59x1 : AC := .seq (.ops false [
    ⟨(some 5), .buildSl [] 1 [], none, []⟩,
    ⟨(some 6), .move (.tmp 0), none, []⟩,
    ⟨(some 7), .append [(.int .i64 0)] 1 8 (.tmp 5) (.tmp 6), none, []⟩,
    ⟨(some 2), .move (.tmp 7), none, []⟩]) k59x6
def k59x0 : AC := .seq (.seq (.ops false [
    ⟨(some 3), .move (.tmp 0), none, []⟩,
    ⟨(some 4), .bin .sl .eql (.tmp 3) (.c (.sl .nil 0)), none, []⟩]) k59x2) k59x1
/-- slices.Clone[[]int,int] -/
def c59 : AFn := ⟨8, [.tmp 2],
  .seq (.ops false [
    ⟨(some 2), .move (.c (.sl .nil 0)), none, []⟩]) k59x0⟩
theorem r59 (s0 : SA) (n0 : Nat) (h : Heap) : runE M C c59 [(.sl s0 n0)] h = (
  if (SA.isNil s0) = true then
    (
    some ((.sl .nil 0), h)
    )
  else
    (
    newK h (.cells [] (.grow 1) 0) fun h_2 =>
    (ldSl h_2 s0 (n0 * 1)).bind fun y7 =>
    (apnd h_2 (.sl (.pos ⟨List.length h, 0, 0⟩) 0) 1 8 y7 n0).bind fun r7 =>
    gL (some r7.1) true fun s7 n7 =>
    some ((.sl s7 n7), r7.2)
    )
  ) := by kernel_rfl
theorem cf59 : cFn Try.prog 59 = some c59 := by kernel_rfl
theorem e59 (s0 : SA) (n0 : Nat) (h : Heap) : E 59 [(.sl s0 n0)] h = (
  if (SA.isNil s0) = true then
    (
    some ((.sl .nil 0), h)
    )
  else
    (
    newK h (.cells [] (.grow 1) 0) fun h_2 =>
    (ldSl h_2 s0 (n0 * 1)).bind fun y7 =>
    (apnd h_2 (.sl (.pos ⟨List.length h, 0, 0⟩) 0) 1 8 y7 n0).bind fun r7 =>
    gL (some r7.1) true fun s7 n7 =>
    some ((.sl s7 n7), r7.2)
    )
  ) := (EV_eq (P := Try.prog) (T := T0) rfl cf59 [(.sl s0 n0)] h).trans (r59 mk0 E s0 n0 h)
def k50x8 : AC := .exit 0
def k50x7 : AC := .mask 387
def k50x15 : AC := .ret
def k50x14 : AC := .seq (.mask 16) k50x15
def k50x13 : AC := .mask 387
def k50x12 : AC := .seq (.cond (.tmp 16)
   (.seq (.ops false [
      ⟨(some 17), .move (.tmp 5), none, []⟩,
      ⟨(some 4), .move (.tmp 17), none, []⟩]) k50x14)
   (.skip)) k50x13
def k50x11 : AC := .seq (.ops false [
    ⟨(some 11), .move (.tmp 1), none, []⟩,
    ⟨(some 12), .move (.tmp 0), none, []⟩,
    ⟨(some 13), .move (.tmp 5), none, []⟩,
    ⟨(some 14), .indexAddr 1 (.tmp 12) (.tmp 13), none, []⟩,
    ⟨(some 15), .load (.cell (.int .i64)) (.tmp 14), none, []⟩,
    ⟨(some 16), .bin .other .eql (.tmp 11) (.tmp 15), none, []⟩]) k50x12
def k50x10 : AC := .mask 387
def k50x9 : AC := .ops false [
    ⟨(some 18), .bin .other .add (.tmp 8) (.c (.int .i64 1)), none, []⟩,
    ⟨(some 8), .move (.tmp 18), none, []⟩]
def k50x6 : AC := .seq (.seq (.block 1 (.seq (.ops false [
     ⟨(some 10), .move (.tmp 8), none, []⟩,
     ⟨(some 5), .move (.tmp 10), none, []⟩]) k50x11)) k50x10) k50x9
def k50x5 : AC := .seq (.seq (.cond (.tmp 9)
   (.skip)
   (.seq (.mask 0) k50x8)) k50x7) k50x6
def k50x4 : AC := .seq (.ops false [
    ⟨(some 9), .bin .other .lss (.tmp 8) (.tmp 7), none, []⟩]) k50x5
def k50x3 : AC := .mask 0
def k50x2 : AC := .seq (.block 0 (.loop 387 0 k50x4)) k50x3
def k50x17 : AC := .ret
def k50x16 : AC := .seq (.mask 16) k50x17
def k50x1 : AC := .seq (.ops false [
    ⟨(some 4), .move (.c (.int .i64 (-1))), none, []⟩]) k50x16
def k50x0 : AC := .seq (.seq (.ops false [
    ⟨(some 6), .move (.tmp 0), none, []⟩,
    ⟨(some 7), .lenSl (.tmp 6), none, []⟩,
    ⟨(some 8), .move (.c (.int .i64 0)), none, []⟩]) k50x2) k50x1
/-- slices.Index[[]int,int] -/
def c50 : AFn := ⟨19, [.tmp 4],
  .seq (.ops false [
    ⟨(some 4), .move (.c (.int .i64 0)), none, []⟩]) k50x0⟩
def S50xr (i4 : Int) (h : Heap) : St := ⟨(rep 4 (.g [] true (.int .i64 i4) :: (rep 14 []))), h⟩
def S50xe0 (h : Heap) : St := ⟨(rep 19 []), h⟩
noncomputable def Q50x4 (M : Mk) (C : Cal) : Kont (AV × Heap) := (blockQ 0 (seqQ (evalE M C k50x3) (seqQ (evalE M C k50x1) (endQ [.tmp 4]))))
noncomputable def L50x4 (s0 : SA) (n0 : Nat) (i1 : Int) (i7 : Int) (i8 : Int) (h : Heap) (Q : Kont R) : Option R := loopE (evalE M C k50x4) 387 0 ⟨(.g [] true (.sl s0 n0) :: (.g [] true (.int .i64 i1) :: (rep 5 (.g [] true (.int .i64 i7) :: (.g [] true (.int .i64 i8) :: (rep 10 [])))))), h⟩ Q
theorem r50 (s0 : SA) (n0 : Nat) (i1 : Int) (h : Heap) : runE M C c50 [(.sl s0 n0), (.int .i64 i1)] h = (
  L50x4 M C s0 n0 i1 ((n0 : Nat) : Int) 0 h (Q50x4 M C)
  ) := by kernel_rfl
theorem cf50 : cFn Try.prog 50 = some c50 := by kernel_rfl
theorem e50 (s0 : SA) (n0 : Nat) (i1 : Int) (h : Heap) : E 50 [(.sl s0 n0), (.int .i64 i1)] h = (
  L50x4 mk0 E s0 n0 i1 ((n0 : Nat) : Int) 0 h (Q50x4 mk0 E)
  ) := (EV_eq (P := Try.prog) (T := T0) rfl cf50 [(.sl s0 n0), (.int .i64 i1)] h).trans (r50 mk0 E s0 n0 i1 h)
theorem L50x4xaux (s0 : SA) (n0 : Nat) (i1 : Int) (i7 : Int) (i8 : Int) (h : Heap) (Q : Kont R) : (restrF 387 ⟨(.g [] true (.sl s0 n0) :: (.g [] true (.int .i64 i1) :: (rep 5 (.g [] true (.int .i64 i7) :: (.g [] true (.int .i64 i8) :: (rep 10 [])))))), h⟩ fun σ => evalE M C k50x4 σ (roundQ M C k50x4 387 0 Q)) = (
  letK ((decide ((i8 : Int) < i7)) : Bool) fun b9 =>
  if b9 = true then
    (
    chk (true = true → (0 : Int) ≤ i8 ∧ (i8 : Int) < ((n0 : Nat) : Int)) <|
    atP (adP s0) true fun a14 =>
    gI .i64 (ld1 h (Ad.add a14 (Int.toNat i8 * 1))) true fun i15 =>
    letK ((decide ((i1 : Int) = i15)) : Bool) fun b16 =>
    if b16 = true then
      (
      Q .ret (S50xr i8 h)
      )
    else
      (
      letK ((IntKind.wrap .i64 (i8 + 1)) : Int) fun i18 =>
      L50x4 M C s0 n0 i1 i7 i18 h Q
      )
    )
  else
    (
    Q (.exit 0) (S50xe0 h)
    )
  ) := by kernel_rfl
theorem L50x4xeq (s0 : SA) (n0 : Nat) (i1 : Int) (i7 : Int) (i8 : Int) (h : Heap) (Q : Kont R) : L50x4 mk0 C s0 n0 i1 i7 i8 h Q = (
  letK ((decide ((i8 : Int) < i7)) : Bool) fun b9 =>
  if b9 = true then
    (
    chk (true = true → (0 : Int) ≤ i8 ∧ (i8 : Int) < ((n0 : Nat) : Int)) <|
    atP (adP s0) true fun a14 =>
    gI .i64 (ld1 h (Ad.add a14 (Int.toNat i8 * 1))) true fun i15 =>
    letK ((decide ((i1 : Int) = i15)) : Bool) fun b16 =>
    if b16 = true then
      (
      Q .ret (S50xr i8 h)
      )
    else
      (
      letK ((IntKind.wrap .i64 (i8 + 1)) : Int) fun i18 =>
      L50x4 mk0 C s0 n0 i1 i7 i18 h Q
      )
    )
  else
    (
    Q (.exit 0) (S50xe0 h)
    )
  ) := loop_eqn C k50x4 387 0 (.g [] true (.sl s0 n0) :: (.g [] true (.int .i64 i1) :: (rep 5 (.g [] true (.int .i64 i7) :: (.g [] true (.int .i64 i8) :: (rep 10 [])))))) h Q (by kernel_rfl) (L50x4xaux mk0 C s0 n0 i1 i7 i8 h Q)
theorem X50x4xr (M : Mk) (C : Cal) (i4 : Int) (h : Heap) : Q50x4 M C .ret (S50xr i4 h) = (
  some ((.int .i64 i4), h)
  ) := by kernel_rfl
theorem X50x4xe0 (M : Mk) (C : Cal) (h : Heap) : Q50x4 M C (.exit 0) (S50xe0 h) = (
  some ((.int .i64 (-1)), h)
  ) := by kernel_rfl
def k36x2 : AC := .ret
def k36x1 : AC := .seq (.mask 16) k36x2
def k36x0 : AC := .seq (.ops false [
    ⟨(some 5), .move (.tmp 0), none, []⟩,
    ⟨(some 6), .move (.tmp 1), none, []⟩,
    ⟨(some 7), .call 50 [(.tmp 5), (.tmp 6)] [(.cell (.int .i64))] (.int .i64 0), none, []⟩,
    ⟨(some 8), .bin .other .geq (.tmp 7) (.c (.int .i64 0)), none, []⟩,
    ⟨(some 4), .move (.tmp 8), none, []⟩]) k36x1
/-- slices.Contains[[]int,int] -/
def c36 : AFn := ⟨9, [.tmp 4],
  .seq (.ops false [
    ⟨(some 4), .move (.c (.bool false)), none, []⟩]) k36x0⟩
theorem r36 (s0 : SA) (n0 : Nat) (i1 : Int) (h : Heap) : runE M C c36 [(.sl s0 n0), (.int .i64 i1)] h = (
  (C 50 [(.sl s0 n0), (.int .i64 i1)] h).bind fun r7 =>
  gI .i64 (some r7.1) true fun i7 =>
  letK ((decide ((0 : Int) ≤ i7)) : Bool) fun b8 =>
  some ((.bool b8), r7.2)
  ) := by kernel_rfl
theorem cf36 : cFn Try.prog 36 = some c36 := by kernel_rfl
theorem e36 (s0 : SA) (n0 : Nat) (i1 : Int) (h : Heap) : E 36 [(.sl s0 n0), (.int .i64 i1)] h = (
  (E 50 [(.sl s0 n0), (.int .i64 i1)] h).bind fun r7 =>
  gI .i64 (some r7.1) true fun i7 =>
  letK ((decide ((0 : Int) ≤ i7)) : Bool) fun b8 =>
  some ((.bool b8), r7.2)
  ) := (EV_eq (P := Try.prog) (T := T0) rfl cf36 [(.sl s0 n0), (.int .i64 i1)] h).trans (r36 mk0 E s0 n0 i1 h)
def k58x9 : AC := .exit 0
def k58x8 : AC := .mask 7206
def k58x16 : AC := .join 7462
def k58x15 : AC := .seq (.cond (.tmp 30)
   (.ops false [
      ⟨(some 31), .move (.tmp 1), none, []⟩,
      ⟨(some 32), .fieldAddr 0 (.tmp 7), none, []⟩,
      ⟨(some 33), .load (.cell (.int .i64)) (.tmp 32), none, []⟩,
      ⟨(some 34), .bin .other .add (.tmp 33) (.c (.int .i64 1)), none, []⟩,
      ⟨(some 35), .indexAddr 1 (.tmp 31) (.tmp 34), none, []⟩,
      ⟨(some 36), .load (.cell (.int .i64)) (.tmp 35), none, []⟩,
      ⟨(some 37), .fieldAddr 0 (.tmp 8), none, []⟩,
      ⟨none, .store 1 (.tmp 37) (.tmp 36), none, []⟩])
   (.skip)) k58x16
def k58x14 : AC := .ops false [
    ⟨(some 38), .move (.tmp 5), none, []⟩,
    ⟨(some 39), .load (.agg [(.int .i64), (.int .i64), .sl, (.int .i64)]) (.tmp 8), none, []⟩,
    ⟨(some 40), .buildSl [(.int .i64 0), (.int .i64 0), (.sl .nil 0), (.int .i64 0)] 4 [(0, (.tmp 39))], none, []⟩,
    ⟨(some 41), .append [(.int .i64 0), (.int .i64 0), (.sl .nil 0), (.int .i64 0)] 4 48 (.tmp 38) (.tmp 40), none, []⟩,
    ⟨(some 5), .move (.tmp 41), none, []⟩]
def k58x13 : AC := .seq (.seq (.ops false [
    ⟨(some 29), .fieldAddr 1 (.tmp 7), none, []⟩,
    ⟨(some 30), .load (.cell .bool) (.tmp 29), none, []⟩]) k58x15) k58x14
def k58x12 : AC := .seq (.ops false [
    ⟨(some 16), .move (.tmp 1), none, []⟩,
    ⟨(some 17), .fieldAddr 0 (.tmp 7), none, []⟩,
    ⟨(some 18), .load (.cell (.int .i64)) (.tmp 17), none, []⟩,
    ⟨(some 19), .indexAddr 1 (.tmp 16) (.tmp 18), none, []⟩,
    ⟨(some 20), .load (.cell (.int .i64)) (.tmp 19), none, []⟩,
    ⟨(some 21), .fieldAddr 4 (.tmp 2), none, []⟩,
    ⟨(some 22), .load (.cell (.int .i64)) (.tmp 21), none, []⟩,
    ⟨(some 23), .fieldAddr 2 (.tmp 7), none, []⟩,
    ⟨(some 24), .load (.cell .sl) (.tmp 23), none, []⟩,
    ⟨(some 26), .fieldAddr 3 (.tmp 7), none, []⟩,
    ⟨(some 27), .load (.cell (.int .i64)) (.tmp 26), none, []⟩,
    ⟨(some 8), .allocL [(.int .i64 0), (.int .i64 0), (.sl .nil 0), (.int .i64 0)], none, []⟩,
    ⟨(some 25), .call 59 [(.tmp 24)] [(.cell .sl)] (.sl .nil 0), none, [.load 1 17 none, .load 1 19 none, .load 1 21 none, .load 1 26 none]⟩,
    ⟨(some 28), .build [(.int .i64 0), (.int .i64 0), (.sl .nil 0), (.int .i64 0)] [(0, 1, (.tmp 20)), (1, 1, (.tmp 22)), (2, 1, (.tmp 25)), (3, 1, (.tmp 27))], none, []⟩,
    ⟨none, .store 4 (.tmp 8) (.tmp 28), none, []⟩]) k58x13
def k58x11 : AC := .mask 7206
def k58x10 : AC := .ops false [
    ⟨(some 42), .bin .other .add (.tmp 12) (.c (.int .i64 1)), none, []⟩,
    ⟨(some 12), .move (.tmp 42), none, []⟩]
def k58x7 : AC := .seq (.seq (.block 1 (.seq (.ops false [
     ⟨(some 14), .indexAddr 4 (.tmp 10) (.tmp 12), none, []⟩,
     ⟨(some 15), .load (.agg [(.int .i64), .bool, .sl, (.int .i64)]) (.tmp 14), none, []⟩,
     ⟨(some 7), .allocL [(.int .i64 0), (.bool false), (.sl .nil 0), (.int .i64 0)], none, []⟩,
     ⟨none, .store 4 (.tmp 7) (.tmp 15), none, []⟩]) k58x12)) k58x11) k58x10
def k58x6 : AC := .seq (.seq (.cond (.tmp 13)
   (.skip)
   (.seq (.mask 32) k58x9)) k58x8) k58x7
def k58x5 : AC := .seq (.ops false [
    ⟨(some 13), .bin .other .lss (.tmp 12) (.tmp 11), none, []⟩]) k58x6
def k58x4 : AC := .mask 32
def k58x3 : AC := .seq (.block 0 (.loop 7206 32 k58x5)) k58x4
def k58x19 : AC := .ret
def k58x18 : AC := .seq (.mask 16) k58x19
def k58x2 : AC := .seq (.ops false [
    ⟨(some 43), .move (.tmp 5), none, []⟩,
    ⟨(some 4), .move (.tmp 43), none, []⟩]) k58x18
def k58x1 : AC := .seq (.seq (.ops false [
    ⟨(some 9), .fieldAddr 3 (.tmp 2), none, []⟩,
    ⟨(some 10), .load (.cell .sl) (.tmp 9), none, []⟩,
    ⟨(some 11), .lenSl (.tmp 10), none, []⟩,
    ⟨(some 12), .move (.c (.int .i64 0)), none, []⟩]) k58x3) k58x2
def k58x0 : AC := .seq (.ops false [
    ⟨(some 5), .move (.c (.sl .nil 0)), none, []⟩]) k58x1
/-- provenance/link.maps -/
def c58 : AFn := ⟨44, [.tmp 4],
  .seq (.ops false [
    ⟨(some 2), .boxL (.tmp 0), none, []⟩,
    ⟨(some 4), .move (.c (.sl .nil 0)), none, []⟩]) k58x0⟩
def S58xe0 (s5 : SA) (n5 : Nat) (h : Heap) : St := ⟨(rep 5 (.g [] true (.sl s5 n5) :: (rep 38 []))), h⟩
noncomputable def Q58x5 (M : Mk) (C : Cal) : Kont (AV × Heap) := (blockQ 0 (seqQ (evalE M C k58x4) (seqQ (evalE M C k58x2) (endQ [.tmp 4]))))
noncomputable def L58x5 (s1 : SA) (n1 : Nat) (i2x0 : Int) (s2x1 : SA) (n2x1 : Nat) (s2x2 : SA) (n2x2 : Nat) (s2x3 : SA) (n2x3 : Nat) (i2x4 : Int) (s5 : SA) (n5 : Nat) (s10 : SA) (n10 : Nat) (i11 : Int) (i12 : Int) (h : Heap) (Q : Kont R) : Option R := loopE (evalE M C k58x5) 7206 32 ⟨(.any :: (.g [] true (.sl s1 n1) :: (.box [(.int .i64 i2x0), (.sl s2x1 n2x1), (.sl s2x2 n2x2), (.sl s2x3 n2x3), (.int .i64 i2x4)] :: (.any :: .any :: (.g [] true (.sl s5 n5) :: (rep 4 (.g [] true (.sl s10 n10) :: (.g [] true (.int .i64 i11) :: (.g [] true (.int .i64 i12) :: (rep 31 [])))))))))), h⟩ Q
noncomputable def J58x17 (M : Mk) (C : Cal) (s1 : SA) (n1 : Nat) (i2x0 : Int) (s2x1 : SA) (n2x1 : Nat) (s2x2 : SA) (n2x2 : Nat) (s2x3 : SA) (n2x3 : Nat) (i2x4 : Int) (s5 : SA) (n5 : Nat) (i8x0 : Int) (i8x1 : Int) (s8x2 : SA) (n8x2 : Nat) (i8x3 : Int) (s10 : SA) (n10 : Nat) (i11 : Int) (i12 : Int) (h : Heap) (Q : Kont R) : Option R := M R (seqQ (evalE M C k58x14) (blockQ 1 (seqQ (evalE M C k58x11) (seqQ (evalE M C k58x10) (roundQ M C k58x5 7206 32 Q))))) (.any :: (.g [] true (.sl s1 n1) :: (.box [(.int .i64 i2x0), (.sl s2x1 n2x1), (.sl s2x2 n2x2), (.sl s2x3 n2x3), (.int .i64 i2x4)] :: (.any :: .any :: (.g [] true (.sl s5 n5) :: (.any :: .any :: (.box [(.int .i64 i8x0), (.int .i64 i8x1), (.sl s8x2 n8x2), (.int .i64 i8x3)] :: (.any :: (.g [] true (.sl s10 n10) :: (.g [] true (.int .i64 i11) :: (.g [] true (.int .i64 i12) :: (rep 31 [])))))))))))) h
theorem r58 (i0x0 : Int) (s0x1 : SA) (n0x1 : Nat) (s0x2 : SA) (n0x2 : Nat) (s0x3 : SA) (n0x3 : Nat) (i0x4 : Int) (s1 : SA) (n1 : Nat) (h : Heap) : runE M C c58 [(.agg [(.int .i64 i0x0), (.sl s0x1 n0x1), (.sl s0x2 n0x2), (.sl s0x3 n0x3), (.int .i64 i0x4)]), (.sl s1 n1)] h = (
  L58x5 M C s1 n1 i0x0 s0x1 n0x1 s0x2 n0x2 s0x3 n0x3 i0x4 .nil 0 s0x3 n0x3 ((n0x3 : Nat) : Int) 0 h (Q58x5 M C)
  ) := by kernel_rfl
theorem cf58 : cFn Try.prog 58 = some c58 := by kernel_rfl
theorem e58 (i0x0 : Int) (s0x1 : SA) (n0x1 : Nat) (s0x2 : SA) (n0x2 : Nat) (s0x3 : SA) (n0x3 : Nat) (i0x4 : Int) (s1 : SA) (n1 : Nat) (h : Heap) : E 58 [(.agg [(.int .i64 i0x0), (.sl s0x1 n0x1), (.sl s0x2 n0x2), (.sl s0x3 n0x3), (.int .i64 i0x4)]), (.sl s1 n1)] h = (
  L58x5 mk0 E s1 n1 i0x0 s0x1 n0x1 s0x2 n0x2 s0x3 n0x3 i0x4 .nil 0 s0x3 n0x3 ((n0x3 : Nat) : Int) 0 h (Q58x5 mk0 E)
  ) := (EV_eq (P := Try.prog) (T := T0) rfl cf58 [(.agg [(.int .i64 i0x0), (.sl s0x1 n0x1), (.sl s0x2 n0x2), (.sl s0x3 n0x3), (.int .i64 i0x4)]), (.sl s1 n1)] h).trans (r58 mk0 E i0x0 s0x1 n0x1 s0x2 n0x2 s0x3 n0x3 i0x4 s1 n1 h)
theorem L58x5xaux (s1 : SA) (n1 : Nat) (i2x0 : Int) (s2x1 : SA) (n2x1 : Nat) (s2x2 : SA) (n2x2 : Nat) (s2x3 : SA) (n2x3 : Nat) (i2x4 : Int) (s5 : SA) (n5 : Nat) (s10 : SA) (n10 : Nat) (i11 : Int) (i12 : Int) (h : Heap) (Q : Kont R) : (restrF 7206 ⟨(.any :: (.g [] true (.sl s1 n1) :: (.box [(.int .i64 i2x0), (.sl s2x1 n2x1), (.sl s2x2 n2x2), (.sl s2x3 n2x3), (.int .i64 i2x4)] :: (.any :: .any :: (.g [] true (.sl s5 n5) :: (rep 4 (.g [] true (.sl s10 n10) :: (.g [] true (.int .i64 i11) :: (.g [] true (.int .i64 i12) :: (rep 31 [])))))))))), h⟩ fun σ => evalE M C k58x5 σ (roundQ M C k58x5 7206 32 Q)) = (
  letK ((decide ((i12 : Int) < i11)) : Bool) fun b13 =>
  if b13 = true then
    (
    chk (true = true → (0 : Int) ≤ i12 ∧ (i12 : Int) < ((n10 : Nat) : Int)) <|
    atP (adP s10) true fun a14 =>
    gCells (ldN h (Ad.add a14 (Int.toNat i12 * 4)) 4) true fun l15 =>
    gI .i64 (l15[0]?) true fun i15x0 =>
    gB (l15[1]?) true fun b15x1 =>
    gL (l15[2]?) true fun s15x2 n15x2 =>
    gI .i64 (l15[3]?) true fun i15x3 =>
    chk (true = true → (0 : Int) ≤ i15x0 ∧ (i15x0 : Int) < ((n1 : Nat) : Int)) <|
    atP (adP s1) true fun a19 =>
    gI .i64 (ld1 h (Ad.add a19 (Int.toNat i15x0 * 1))) true fun i20 =>
    (C 59 [(.sl s15x2 n15x2)] h).bind fun r25 =>
    gL (some r25.1) true fun s25 n25 =>
    chkC (true = true → ldN r25.2 (Ad.add a19 (Int.toNat i15x0 * 1)) 1 = ldN h (Ad.add a19 (Int.toNat i15x0 * 1)) 1) <|
    if b15x1 = true then
      (
      letK ((IntKind.wrap .i64 (i15x0 + 1)) : Int) fun i34 =>
      chk (true = true → (0 : Int) ≤ i34 ∧ (i34 : Int) < ((n1 : Nat) : Int)) <|
      atP (adP s1) true fun a35 =>
      gI .i64 (ld1 r25.2 (Ad.add a35 (Int.toNat i34 * 1))) true fun i36 =>
      J58x17 M C s1 n1 i2x0 s2x1 n2x1 s2x2 n2x2 s2x3 n2x3 i2x4 s5 n5 i36 i2x4 s25 n25 i15x3 s10 n10 i11 i12 r25.2 Q
      )
    else
      (
      J58x17 M C s1 n1 i2x0 s2x1 n2x1 s2x2 n2x2 s2x3 n2x3 i2x4 s5 n5 i20 i2x4 s25 n25 i15x3 s10 n10 i11 i12 r25.2 Q
      )
    )
  else
    (
    Q (.exit 0) (S58xe0 s5 n5 h)
    )
  ) := by kernel_rfl
theorem L58x5xeq (s1 : SA) (n1 : Nat) (i2x0 : Int) (s2x1 : SA) (n2x1 : Nat) (s2x2 : SA) (n2x2 : Nat) (s2x3 : SA) (n2x3 : Nat) (i2x4 : Int) (s5 : SA) (n5 : Nat) (s10 : SA) (n10 : Nat) (i11 : Int) (i12 : Int) (h : Heap) (Q : Kont R) : L58x5 mk0 C s1 n1 i2x0 s2x1 n2x1 s2x2 n2x2 s2x3 n2x3 i2x4 s5 n5 s10 n10 i11 i12 h Q = (
  letK ((decide ((i12 : Int) < i11)) : Bool) fun b13 =>
  if b13 = true then
    (
    chk (true = true → (0 : Int) ≤ i12 ∧ (i12 : Int) < ((n10 : Nat) : Int)) <|
    atP (adP s10) true fun a14 =>
    gCells (ldN h (Ad.add a14 (Int.toNat i12 * 4)) 4) true fun l15 =>
    gI .i64 (l15[0]?) true fun i15x0 =>
    gB (l15[1]?) true fun b15x1 =>
    gL (l15[2]?) true fun s15x2 n15x2 =>
    gI .i64 (l15[3]?) true fun i15x3 =>
    chk (true = true → (0 : Int) ≤ i15x0 ∧ (i15x0 : Int) < ((n1 : Nat) : Int)) <|
    atP (adP s1) true fun a19 =>
    gI .i64 (ld1 h (Ad.add a19 (Int.toNat i15x0 * 1))) true fun i20 =>
    (C 59 [(.sl s15x2 n15x2)] h).bind fun r25 =>
    gL (some r25.1) true fun s25 n25 =>
    chkC (true = true → ldN r25.2 (Ad.add a19 (Int.toNat i15x0 * 1)) 1 = ldN h (Ad.add a19 (Int.toNat i15x0 * 1)) 1) <|
    if b15x1 = true then
      (
      letK ((IntKind.wrap .i64 (i15x0 + 1)) : Int) fun i34 =>
      chk (true = true → (0 : Int) ≤ i34 ∧ (i34 : Int) < ((n1 : Nat) : Int)) <|
      atP (adP s1) true fun a35 =>
      gI .i64 (ld1 r25.2 (Ad.add a35 (Int.toNat i34 * 1))) true fun i36 =>
      J58x17 mk0 C s1 n1 i2x0 s2x1 n2x1 s2x2 n2x2 s2x3 n2x3 i2x4 s5 n5 i36 i2x4 s25 n25 i15x3 s10 n10 i11 i12 r25.2 Q
      )
    else
      (
      J58x17 mk0 C s1 n1 i2x0 s2x1 n2x1 s2x2 n2x2 s2x3 n2x3 i2x4 s5 n5 i20 i2x4 s25 n25 i15x3 s10 n10 i11 i12 r25.2 Q
      )
    )
  else
    (
    Q (.exit 0) (S58xe0 s5 n5 h)
    )
  ) := loop_eqn C k58x5 7206 32 (.any :: (.g [] true (.sl s1 n1) :: (.box [(.int .i64 i2x0), (.sl s2x1 n2x1), (.sl s2x2 n2x2), (.sl s2x3 n2x3), (.int .i64 i2x4)] :: (.any :: .any :: (.g [] true (.sl s5 n5) :: (rep 4 (.g [] true (.sl s10 n10) :: (.g [] true (.int .i64 i11) :: (.g [] true (.int .i64 i12) :: (rep 31 [])))))))))) h Q (by kernel_rfl) (L58x5xaux mk0 C s1 n1 i2x0 s2x1 n2x1 s2x2 n2x2 s2x3 n2x3 i2x4 s5 n5 s10 n10 i11 i12 h Q)
theorem J58x17xaux (M : Mk) (C : Cal) (s1 : SA) (n1 : Nat) (i2x0 : Int) (s2x1 : SA) (n2x1 : Nat) (s2x2 : SA) (n2x2 : Nat) (s2x3 : SA) (n2x3 : Nat) (i2x4 : Int) (s5 : SA) (n5 : Nat) (i8x0 : Int) (i8x1 : Int) (s8x2 : SA) (n8x2 : Nat) (i8x3 : Int) (s10 : SA) (n10 : Nat) (i11 : Int) (i12 : Int) (h : Heap) (Q : Kont R) : (forceK tk (.any :: (.g [] true (.sl s1 n1) :: (.box [(.int .i64 i2x0), (.sl s2x1 n2x1), (.sl s2x2 n2x2), (.sl s2x3 n2x3), (.int .i64 i2x4)] :: (.any :: .any :: (.g [] true (.sl s5 n5) :: (.any :: .any :: (.box [(.int .i64 i8x0), (.int .i64 i8x1), (.sl s8x2 n8x2), (.int .i64 i8x3)] :: (.any :: (.g [] true (.sl s10 n10) :: (.g [] true (.int .i64 i11) :: (.g [] true (.int .i64 i12) :: (rep 31 [])))))))))))) fun e => (seqQ (evalE M C k58x14) (blockQ 1 (seqQ (evalE M C k58x11) (seqQ (evalE M C k58x10) (roundQ M C k58x5 7206 32 Q))))) .normal ⟨e, h⟩) = (
  newK h (.cells [(.int .i64 i8x0), (.int .i64 i8x1), (.sl s8x2 n8x2), (.int .i64 i8x3)] (.grow 4) 0) fun h_2 =>
  (ldSl h_2 (.pos ⟨List.length h, 0, 0⟩) (1 * 4)).bind fun y41 =>
  (apnd h_2 (.sl s5 n5) 4 48 y41 1).bind fun r41 =>
  gL (some r41.1) true fun s41 n41 =>
  letK ((IntKind.wrap .i64 (i12 + 1)) : Int) fun i42 =>
  L58x5 M C s1 n1 i2x0 s2x1 n2x1 s2x2 n2x2 s2x3 n2x3 i2x4 s41 n41 s10 n10 i11 i42 r41.2 Q
  ) := by kernel_rfl
theorem J58x17xeq (C : Cal) (s1 : SA) (n1 : Nat) (i2x0 : Int) (s2x1 : SA) (n2x1 : Nat) (s2x2 : SA) (n2x2 : Nat) (s2x3 : SA) (n2x3 : Nat) (i2x4 : Int) (s5 : SA) (n5 : Nat) (i8x0 : Int) (i8x1 : Int) (s8x2 : SA) (n8x2 : Nat) (i8x3 : Int) (s10 : SA) (n10 : Nat) (i11 : Int) (i12 : Int) (h : Heap) (Q : Kont R) : J58x17 mk0 C s1 n1 i2x0 s2x1 n2x1 s2x2 n2x2 s2x3 n2x3 i2x4 s5 n5 i8x0 i8x1 s8x2 n8x2 i8x3 s10 n10 i11 i12 h Q = (
  newK h (.cells [(.int .i64 i8x0), (.int .i64 i8x1), (.sl s8x2 n8x2), (.int .i64 i8x3)] (.grow 4) 0) fun h_2 =>
  (ldSl h_2 (.pos ⟨List.length h, 0, 0⟩) (1 * 4)).bind fun y41 =>
  (apnd h_2 (.sl s5 n5) 4 48 y41 1).bind fun r41 =>
  gL (some r41.1) true fun s41 n41 =>
  letK ((IntKind.wrap .i64 (i12 + 1)) : Int) fun i42 =>
  L58x5 mk0 C s1 n1 i2x0 s2x1 n2x1 s2x2 n2x2 s2x3 n2x3 i2x4 s41 n41 s10 n10 i11 i42 r41.2 Q
  ) := join_eqn (seqQ (evalE mk0 C k58x14) (blockQ 1 (seqQ (evalE mk0 C k58x11) (seqQ (evalE mk0 C k58x10) (roundQ mk0 C k58x5 7206 32 Q))))) (.any :: (.g [] true (.sl s1 n1) :: (.box [(.int .i64 i2x0), (.sl s2x1 n2x1), (.sl s2x2 n2x2), (.sl s2x3 n2x3), (.int .i64 i2x4)] :: (.any :: .any :: (.g [] true (.sl s5 n5) :: (.any :: .any :: (.box [(.int .i64 i8x0), (.int .i64 i8x1), (.sl s8x2 n8x2), (.int .i64 i8x3)] :: (.any :: (.g [] true (.sl s10 n10) :: (.g [] true (.int .i64 i11) :: (.g [] true (.int .i64 i12) :: (rep 31 [])))))))))))) h (J58x17xaux mk0 C s1 n1 i2x0 s2x1 n2x1 s2x2 n2x2 s2x3 n2x3 i2x4 s5 n5 i8x0 i8x1 s8x2 n8x2 i8x3 s10 n10 i11 i12 h Q)
theorem X58x5xe0 (M : Mk) (C : Cal) (s5 : SA) (n5 : Nat) (h : Heap) : Q58x5 M C (.exit 0) (S58xe0 s5 n5 h) = (
  some ((.sl s5 n5), h)
  ) := by kernel_rfl
def k47x8 : AC := .exit 0
def k47x7 : AC := .mask 57361
def k47x14 : AC := .join 57425
def k47x13 : AC := .seq (.cond (.tmp 21)
   (.ops false [
      ⟨(some 22), .fieldAddr 5 (.tmp 6), none, []⟩,
      ⟨(some 23), .load (.cell (.int .i64)) (.tmp 22), none, []⟩,
      ⟨(some 24), .move (.tmp 4), none, []⟩,
      ⟨(some 25), .bin .other .add (.tmp 23) (.tmp 24), none, []⟩,
      ⟨(some 26), .fieldAddr 5 (.tmp 6), none, []⟩,
      ⟨none, .store 1 (.tmp 26) (.tmp 25), none, []⟩])
   (.skip)) k47x14
def k47x12 : AC := .ops false [
    ⟨(some 27), .move (.tmp 0), none, []⟩,
    ⟨(some 28), .move (.tmp 0), none, []⟩,
    ⟨(some 29), .nilCheck (.tmp 28), none, []⟩,
    ⟨(some 30), .fieldAddr 0 (.tmp 29), none, []⟩,
    ⟨(some 31), .load (.cell .sl) (.tmp 30), none, []⟩,
    ⟨(some 32), .load (.agg [(.int .i64), (.int .i64), (.int .i64), (.int .i64), (.int .i64), (.int .i64)]) (.tmp 6), none, []⟩,
    ⟨(some 33), .buildSl (List.replicate 6 (.int .i64 0)) 6 [(0, (.tmp 32))], none, []⟩,
    ⟨(some 34), .append (List.replicate 6 (.int .i64 0)) 6 48 (.tmp 31) (.tmp 33), none, []⟩,
    ⟨(some 35), .nilCheck (.tmp 27), none, []⟩,
    ⟨(some 36), .fieldAddr 0 (.tmp 35), none, []⟩,
    ⟨none, .store 1 (.tmp 36) (.tmp 34), none, []⟩]
def k47x11 : AC := .seq (.seq (.ops false [
    ⟨(some 19), .fieldAddr 5 (.tmp 6), none, []⟩,
    ⟨(some 20), .load (.cell (.int .i64)) (.tmp 19), none, []⟩,
    ⟨(some 21), .bin .other .geq (.tmp 20) (.c (.int .i64 0)), none, []⟩]) k47x13) k47x12
def k47x10 : AC := .mask 57361
def k47x9 : AC := .ops false [
    ⟨(some 37), .bin .other .add (.tmp 15) (.c (.int .i64 1)), none, []⟩,
    ⟨(some 15), .move (.tmp 37), none, []⟩]
def k47x6 : AC := .seq (.seq (.block 1 (.seq (.ops false [
     ⟨(some 17), .indexAddr 6 (.tmp 13) (.tmp 15), none, []⟩,
     ⟨(some 18), .load (.agg [(.int .i64), (.int .i64), (.int .i64), (.int .i64), (.int .i64), (.int .i64)]) (.tmp 17), none, []⟩,
     ⟨(some 6), .allocL (List.replicate 6 (.int .i64 0)), none, []⟩,
     ⟨none, .store 6 (.tmp 6) (.tmp 18), none, []⟩]) k47x11)) k47x10) k47x9
def k47x5 : AC := .seq (.seq (.cond (.tmp 16)
   (.skip)
   (.seq (.mask 0) k47x8)) k47x7) k47x6
def k47x4 : AC := .seq (.ops false [
    ⟨(some 16), .bin .other .lss (.tmp 15) (.tmp 14), none, []⟩]) k47x5
def k47x3 : AC := .mask 0
def k47x2 : AC := .seq (.block 0 (.loop 57361 0 k47x4)) k47x3
def k47x1 : AC := .seq (.ops false [
    ⟨(some 12), .fieldAddr 1 (.tmp 3), none, []⟩,
    ⟨(some 13), .load (.cell .sl) (.tmp 12), none, []⟩,
    ⟨(some 14), .lenSl (.tmp 13), none, []⟩,
    ⟨(some 15), .move (.c (.int .i64 0)), none, []⟩]) k47x2
def k47x0 : AC := .seq (.ops false [
    ⟨(some 7), .move (.tmp 0), none, []⟩,
    ⟨(some 8), .nilCheck (.tmp 7), none, []⟩,
    ⟨(some 9), .fieldAddr 0 (.tmp 8), none, []⟩,
    ⟨(some 10), .load (.cell .sl) (.tmp 9), none, []⟩,
    ⟨(some 11), .lenSl (.tmp 10), none, []⟩,
    ⟨(some 4), .move (.tmp 11), none, []⟩]) k47x1
/-- (*provenance/link.linker).add -/
def c47 : AFn := ⟨38, [],
  .seq (.ops false [
    ⟨(some 3), .boxL (.tmp 1), none, []⟩]) k47x0⟩
def S47xe0 (h : Heap) : St := ⟨(rep 38 []), h⟩
noncomputable def Q47x4 (M : Mk) (C : Cal) : Kont (AV × Heap) := (blockQ 0 (seqQ (evalE M C k47x3) (endQ [])))
noncomputable def L47x4 (p0 : Option Ad) (i4 : Int) (s13 : SA) (n13 : Nat) (i14 : Int) (i15 : Int) (h : Heap) (Q : Kont R) : Option R := loopE (evalE M C k47x4) 57361 0 ⟨(.g [] true (.ptr p0) :: (rep 3 (.g [] true (.int .i64 i4) :: (rep 8 (.g [] true (.sl s13 n13) :: (.g [] true (.int .i64 i14) :: (.g [] true (.int .i64 i15) :: (rep 22 [])))))))), h⟩ Q
noncomputable def J47x15 (M : Mk) (C : Cal) (p0 : Option Ad) (i4 : Int) (i6x0 : Int) (i6x1 : Int) (i6x2 : Int) (i6x3 : Int) (i6x4 : Int) (i6x5 : Int) (s13 : SA) (n13 : Nat) (i14 : Int) (i15 : Int) (h : Heap) (Q : Kont R) : Option R := M R (seqQ (evalE M C k47x12) (blockQ 1 (seqQ (evalE M C k47x10) (seqQ (evalE M C k47x9) (roundQ M C k47x4 57361 0 Q))))) (.g [] true (.ptr p0) :: (rep 3 (.g [] true (.int .i64 i4) :: (.any :: (.box [(.int .i64 i6x0), (.int .i64 i6x1), (.int .i64 i6x2), (.int .i64 i6x3), (.int .i64 i6x4), (.int .i64 i6x5)] :: (rep 6 (.g [] true (.sl s13 n13) :: (.g [] true (.int .i64 i14) :: (.g [] true (.int .i64 i15) :: (rep 22 [])))))))))) h
theorem r47 (p0 : Option Ad) (i1x0 : Int) (s1x1 : SA) (n1x1 : Nat) (s1x2 : SA) (n1x2 : Nat) (s1x3 : SA) (n1x3 : Nat) (i1x4 : Int) (h : Heap) : runE M C c47 [(.ptr p0), (.agg [(.int .i64 i1x0), (.sl s1x1 n1x1), (.sl s1x2 n1x2), (.sl s1x3 n1x3), (.int .i64 i1x4)])] h = (
  atP p0 true fun a8 =>
  gL (ld1 h (Ad.add a8 0)) true fun s10 n10 =>
  L47x4 M C p0 ((n10 : Nat) : Int) s1x1 n1x1 ((n1x1 : Nat) : Int) 0 h (Q47x4 M C)
  ) := by kernel_rfl
theorem cf47 : cFn Try.prog 47 = some c47 := by kernel_rfl
theorem e47 (p0 : Option Ad) (i1x0 : Int) (s1x1 : SA) (n1x1 : Nat) (s1x2 : SA) (n1x2 : Nat) (s1x3 : SA) (n1x3 : Nat) (i1x4 : Int) (h : Heap) : E 47 [(.ptr p0), (.agg [(.int .i64 i1x0), (.sl s1x1 n1x1), (.sl s1x2 n1x2), (.sl s1x3 n1x3), (.int .i64 i1x4)])] h = (
  atP p0 true fun a8 =>
  gL (ld1 h (Ad.add a8 0)) true fun s10 n10 =>
  L47x4 mk0 E p0 ((n10 : Nat) : Int) s1x1 n1x1 ((n1x1 : Nat) : Int) 0 h (Q47x4 mk0 E)
  ) := (EV_eq (P := Try.prog) (T := T0) rfl cf47 [(.ptr p0), (.agg [(.int .i64 i1x0), (.sl s1x1 n1x1), (.sl s1x2 n1x2), (.sl s1x3 n1x3), (.int .i64 i1x4)])] h).trans (r47 mk0 E p0 i1x0 s1x1 n1x1 s1x2 n1x2 s1x3 n1x3 i1x4 h)
theorem L47x4xaux (p0 : Option Ad) (i4 : Int) (s13 : SA) (n13 : Nat) (i14 : Int) (i15 : Int) (h : Heap) (Q : Kont R) : (restrF 57361 ⟨(.g [] true (.ptr p0) :: (rep 3 (.g [] true (.int .i64 i4) :: (rep 8 (.g [] true (.sl s13 n13) :: (.g [] true (.int .i64 i14) :: (.g [] true (.int .i64 i15) :: (rep 22 [])))))))), h⟩ fun σ => evalE M C k47x4 σ (roundQ M C k47x4 57361 0 Q)) = (
  letK ((decide ((i15 : Int) < i14)) : Bool) fun b16 =>
  if b16 = true then
    (
    chk (true = true → (0 : Int) ≤ i15 ∧ (i15 : Int) < ((n13 : Nat) : Int)) <|
    atP (adP s13) true fun a17 =>
    gCells (ldN h (Ad.add a17 (Int.toNat i15 * 6)) 6) true fun l18 =>
    gI .i64 (l18[0]?) true fun i18x0 =>
    gI .i64 (l18[1]?) true fun i18x1 =>
    gI .i64 (l18[2]?) true fun i18x2 =>
    gI .i64 (l18[3]?) true fun i18x3 =>
    gI .i64 (l18[4]?) true fun i18x4 =>
    gI .i64 (l18[5]?) true fun i18x5 =>
    letK ((decide ((0 : Int) ≤ i18x5)) : Bool) fun b21 =>
    if b21 = true then
      (
      letK ((IntKind.wrap .i64 (i18x5 + i4)) : Int) fun i25 =>
      J47x15 M C p0 i4 i18x0 i18x1 i18x2 i18x3 i18x4 i25 s13 n13 i14 i15 h Q
      )
    else
      (
      J47x15 M C p0 i4 i18x0 i18x1 i18x2 i18x3 i18x4 i18x5 s13 n13 i14 i15 h Q
      )
    )
  else
    (
    Q (.exit 0) (S47xe0 h)
    )
  ) := by kernel_rfl
theorem L47x4xeq (p0 : Option Ad) (i4 : Int) (s13 : SA) (n13 : Nat) (i14 : Int) (i15 : Int) (h : Heap) (Q : Kont R) : L47x4 mk0 C p0 i4 s13 n13 i14 i15 h Q = (
  letK ((decide ((i15 : Int) < i14)) : Bool) fun b16 =>
  if b16 = true then
    (
    chk (true = true → (0 : Int) ≤ i15 ∧ (i15 : Int) < ((n13 : Nat) : Int)) <|
    atP (adP s13) true fun a17 =>
    gCells (ldN h (Ad.add a17 (Int.toNat i15 * 6)) 6) true fun l18 =>
    gI .i64 (l18[0]?) true fun i18x0 =>
    gI .i64 (l18[1]?) true fun i18x1 =>
    gI .i64 (l18[2]?) true fun i18x2 =>
    gI .i64 (l18[3]?) true fun i18x3 =>
    gI .i64 (l18[4]?) true fun i18x4 =>
    gI .i64 (l18[5]?) true fun i18x5 =>
    letK ((decide ((0 : Int) ≤ i18x5)) : Bool) fun b21 =>
    if b21 = true then
      (
      letK ((IntKind.wrap .i64 (i18x5 + i4)) : Int) fun i25 =>
      J47x15 mk0 C p0 i4 i18x0 i18x1 i18x2 i18x3 i18x4 i25 s13 n13 i14 i15 h Q
      )
    else
      (
      J47x15 mk0 C p0 i4 i18x0 i18x1 i18x2 i18x3 i18x4 i18x5 s13 n13 i14 i15 h Q
      )
    )
  else
    (
    Q (.exit 0) (S47xe0 h)
    )
  ) := loop_eqn C k47x4 57361 0 (.g [] true (.ptr p0) :: (rep 3 (.g [] true (.int .i64 i4) :: (rep 8 (.g [] true (.sl s13 n13) :: (.g [] true (.int .i64 i14) :: (.g [] true (.int .i64 i15) :: (rep 22 [])))))))) h Q (by kernel_rfl) (L47x4xaux mk0 C p0 i4 s13 n13 i14 i15 h Q)
theorem J47x15xaux (M : Mk) (C : Cal) (p0 : Option Ad) (i4 : Int) (i6x0 : Int) (i6x1 : Int) (i6x2 : Int) (i6x3 : Int) (i6x4 : Int) (i6x5 : Int) (s13 : SA) (n13 : Nat) (i14 : Int) (i15 : Int) (h : Heap) (Q : Kont R) : (forceK tk (.g [] true (.ptr p0) :: (rep 3 (.g [] true (.int .i64 i4) :: (.any :: (.box [(.int .i64 i6x0), (.int .i64 i6x1), (.int .i64 i6x2), (.int .i64 i6x3), (.int .i64 i6x4), (.int .i64 i6x5)] :: (rep 6 (.g [] true (.sl s13 n13) :: (.g [] true (.int .i64 i14) :: (.g [] true (.int .i64 i15) :: (rep 22 [])))))))))) fun e => (seqQ (evalE M C k47x12) (blockQ 1 (seqQ (evalE M C k47x10) (seqQ (evalE M C k47x9) (roundQ M C k47x4 57361 0 Q))))) .normal ⟨e, h⟩) = (
  atP p0 true fun a29 =>
  gL (ld1 h (Ad.add a29 0)) true fun s31 n31 =>
  newK h (.cells [(.int .i64 i6x0), (.int .i64 i6x1), (.int .i64 i6x2), (.int .i64 i6x3), (.int .i64 i6x4), (.int .i64 i6x5)] (.grow 6) 0) fun h_2 =>
  (ldSl h_2 (.pos ⟨List.length h, 0, 0⟩) (1 * 6)).bind fun y34 =>
  (apnd h_2 (.sl s31 n31) 6 48 y34 1).bind fun r34 =>
  gL (some r34.1) true fun s34 n34 =>
  atP p0 true fun a35 =>
  (st1 r34.2 (Ad.add a35 0) (.sl s34 n34)).bind fun h_3 =>
  letK ((IntKind.wrap .i64 (i15 + 1)) : Int) fun i37 =>
  L47x4 M C p0 i4 s13 n13 i14 i37 h_3 Q
  ) := by kernel_rfl
theorem J47x15xeq (C : Cal) (p0 : Option Ad) (i4 : Int) (i6x0 : Int) (i6x1 : Int) (i6x2 : Int) (i6x3 : Int) (i6x4 : Int) (i6x5 : Int) (s13 : SA) (n13 : Nat) (i14 : Int) (i15 : Int) (h : Heap) (Q : Kont R) : J47x15 mk0 C p0 i4 i6x0 i6x1 i6x2 i6x3 i6x4 i6x5 s13 n13 i14 i15 h Q = (
  atP p0 true fun a29 =>
  gL (ld1 h (Ad.add a29 0)) true fun s31 n31 =>
  newK h (.cells [(.int .i64 i6x0), (.int .i64 i6x1), (.int .i64 i6x2), (.int .i64 i6x3), (.int .i64 i6x4), (.int .i64 i6x5)] (.grow 6) 0) fun h_2 =>
  (ldSl h_2 (.pos ⟨List.length h, 0, 0⟩) (1 * 6)).bind fun y34 =>
  (apnd h_2 (.sl s31 n31) 6 48 y34 1).bind fun r34 =>
  gL (some r34.1) true fun s34 n34 =>
  atP p0 true fun a35 =>
  (st1 r34.2 (Ad.add a35 0) (.sl s34 n34)).bind fun h_3 =>
  letK ((IntKind.wrap .i64 (i15 + 1)) : Int) fun i37 =>
  L47x4 mk0 C p0 i4 s13 n13 i14 i37 h_3 Q
  ) := join_eqn (seqQ (evalE mk0 C k47x12) (blockQ 1 (seqQ (evalE mk0 C k47x10) (seqQ (evalE mk0 C k47x9) (roundQ mk0 C k47x4 57361 0 Q))))) (.g [] true (.ptr p0) :: (rep 3 (.g [] true (.int .i64 i4) :: (.any :: (.box [(.int .i64 i6x0), (.int .i64 i6x1), (.int .i64 i6x2), (.int .i64 i6x3), (.int .i64 i6x4), (.int .i64 i6x5)] :: (rep 6 (.g [] true (.sl s13 n13) :: (.g [] true (.int .i64 i14) :: (.g [] true (.int .i64 i15) :: (rep 22 [])))))))))) h (J47x15xaux mk0 C p0 i4 i6x0 i6x1 i6x2 i6x3 i6x4 i6x5 s13 n13 i14 i15 h Q)
theorem X47x4xe0 (M : Mk) (C : Cal) (h : Heap) : Q47x4 M C (.exit 0) (S47xe0 h) = (
  some (.tup [], h)
  ) := by kernel_rfl
def k48x7 : AC := .exit 0
def k48x6 : AC := .mask 57357
def k48x17 : AC := .exit 1
def k48x16 : AC := .seq (.mask 57357) k48x17
def k48x15 : AC := .mask 60941
def k48x14 : AC := .seq (.cond (.tmp 44)
   (.seq (.ops false [
      ⟨(some 45), .move (.tmp 10), none, []⟩,
      ⟨(some 46), .move (.tmp 11), none, []⟩,
      ⟨(some 47), .nilCheck (.tmp 45), none, []⟩,
      ⟨(some 48), .fieldAddr 5 (.tmp 47), none, []⟩,
      ⟨none, .store 1 (.tmp 48) (.tmp 46), none, []⟩]) k48x16)
   (.skip)) k48x15
def k48x18 : AC := .ops false [
    ⟨(some 53), .move (.tmp 0), none, []⟩,
    ⟨(some 54), .move (.tmp 0), none, []⟩,
    ⟨(some 55), .nilCheck (.tmp 54), none, []⟩,
    ⟨(some 56), .fieldAddr 2 (.tmp 55), none, []⟩,
    ⟨(some 57), .load (.cell .sl) (.tmp 56), none, []⟩,
    ⟨(some 58), .move (.tmp 2), none, []⟩,
    ⟨(some 59), .fieldAddr 0 (.tmp 9), none, []⟩,
    ⟨(some 60), .load (.cell (.int .i64)) (.tmp 59), none, []⟩,
    ⟨(some 61), .bin .other .add (.tmp 58) (.tmp 60), none, []⟩,
    ⟨(some 62), .move (.tmp 11), none, []⟩,
    ⟨(some 63), .build [(.int .i64 0), (.int .i64 0)] [(0, 1, (.tmp 61)), (1, 1, (.tmp 62))], none, []⟩,
    ⟨(some 64), .buildSl [(.int .i64 0), (.int .i64 0)] 2 [(0, (.tmp 63))], none, []⟩,
    ⟨(some 65), .append [(.int .i64 0), (.int .i64 0)] 2 16 (.tmp 57) (.tmp 64), none, []⟩,
    ⟨(some 66), .nilCheck (.tmp 53), none, []⟩,
    ⟨(some 67), .fieldAddr 2 (.tmp 66), none, []⟩,
    ⟨none, .store 1 (.tmp 67) (.tmp 65), none, []⟩]
def k48x13 : AC := .seq (.ops false [
    ⟨(some 49), .move (.tmp 10), none, []⟩,
    ⟨(some 50), .nilCheck (.tmp 49), none, []⟩,
    ⟨(some 51), .fieldAddr 0 (.tmp 50), none, []⟩,
    ⟨(some 52), .fieldAddr 4 (.tmp 51), none, []⟩,
    ⟨none, .store 1 (.tmp 52) (.c (.int .i64 1048576)), none, []⟩]) k48x18
def k48x12 : AC := .seq (.seq (.ops false [
    ⟨(some 39), .move (.tmp 10), none, []⟩,
    ⟨(some 40), .nilCheck (.tmp 39), none, []⟩,
    ⟨(some 41), .fieldAddr 0 (.tmp 40), none, []⟩,
    ⟨(some 42), .fieldAddr 0 (.tmp 41), none, []⟩,
    ⟨(some 43), .load (.cell (.int .i64)) (.tmp 42), none, []⟩,
    ⟨(some 44), .bin .other .eql (.tmp 43) (.c (.int .i64 20)), none, []⟩]) k48x14) k48x13
def k48x11 : AC := .seq (.ops false [
    ⟨(some 28), .move (.tmp 0), none, []⟩,
    ⟨(some 29), .nilCheck (.tmp 28), none, []⟩,
    ⟨(some 30), .fieldAddr 1 (.tmp 29), none, []⟩,
    ⟨(some 31), .load (.cell .sl) (.tmp 30), none, []⟩,
    ⟨(some 32), .move (.tmp 3), none, []⟩,
    ⟨(some 33), .fieldAddr 1 (.tmp 9), none, []⟩,
    ⟨(some 34), .load (.cell (.int .i64)) (.tmp 33), none, []⟩,
    ⟨(some 35), .indexAddr 1 (.tmp 32) (.tmp 34), none, []⟩,
    ⟨(some 36), .load (.cell (.int .i64)) (.tmp 35), none, []⟩,
    ⟨(some 37), .indexAddr 1 (.tmp 31) (.tmp 36), none, []⟩,
    ⟨(some 38), .load (.cell (.int .i64)) (.tmp 37), none, []⟩,
    ⟨(some 11), .move (.tmp 38), none, []⟩]) k48x12
def k48x10 : AC := .seq (.ops false [
    ⟨(some 19), .move (.tmp 0), none, []⟩,
    ⟨(some 20), .nilCheck (.tmp 19), none, []⟩,
    ⟨(some 21), .fieldAddr 0 (.tmp 20), none, []⟩,
    ⟨(some 22), .load (.cell .sl) (.tmp 21), none, []⟩,
    ⟨(some 23), .move (.tmp 2), none, []⟩,
    ⟨(some 24), .fieldAddr 0 (.tmp 9), none, []⟩,
    ⟨(some 25), .load (.cell (.int .i64)) (.tmp 24), none, []⟩,
    ⟨(some 26), .bin .other .add (.tmp 23) (.tmp 25), none, []⟩,
    ⟨(some 27), .indexAddr 6 (.tmp 22) (.tmp 26), none, []⟩,
    ⟨(some 10), .move (.tmp 27), none, []⟩]) k48x11
def k48x9 : AC := .join 57357
def k48x8 : AC := .ops false [
    ⟨(some 68), .bin .other .add (.tmp 15) (.c (.int .i64 1)), none, []⟩,
    ⟨(some 15), .move (.tmp 68), none, []⟩]
def k48x5 : AC := .seq (.seq (.block 1 (.seq (.ops false [
     ⟨(some 17), .indexAddr 2 (.tmp 13) (.tmp 15), none, []⟩,
     ⟨(some 18), .load (.agg [(.int .i64), (.int .i64)]) (.tmp 17), none, []⟩,
     ⟨(some 9), .allocL [(.int .i64 0), (.int .i64 0)], none, []⟩,
     ⟨none, .store 2 (.tmp 9) (.tmp 18), none, []⟩]) k48x10)) k48x9) k48x8
def k48x4 : AC := .seq (.seq (.cond (.tmp 16)
   (.skip)
   (.seq (.mask 0) k48x7)) k48x6) k48x5
def k48x3 : AC := .seq (.ops false [
    ⟨(some 16), .bin .other .lss (.tmp 15) (.tmp 14), none, []⟩]) k48x4
def k48x2 : AC := .mask 0
def k48x1 : AC := .seq (.block 0 (.loop 57357 0 k48x3)) k48x2
def k48x0 : AC := .seq (.ops false [
    ⟨(some 12), .fieldAddr 2 (.tmp 5), none, []⟩,
    ⟨(some 13), .load (.cell .sl) (.tmp 12), none, []⟩,
    ⟨(some 14), .lenSl (.tmp 13), none, []⟩,
    ⟨(some 15), .move (.c (.int .i64 0)), none, []⟩]) k48x1
/-- (*provenance/link.linker).refs -/
def c48 : AFn := ⟨69, [],
  .seq (.ops false [
    ⟨(some 5), .boxL (.tmp 1), none, []⟩]) k48x0⟩
def S48xe0 (h : Heap) : St := ⟨(rep 69 []), h⟩
noncomputable def Q48x3 (M : Mk) (C : Cal) : Kont (AV × Heap) := (blockQ 0 (seqQ (evalE M C k48x2) (endQ [])))
noncomputable def L48x3 (p0 : Option Ad) (i2 : Int) (s3 : SA) (n3 : Nat) (s13 : SA) (n13 : Nat) (i14 : Int) (i15 : Int) (h : Heap) (Q : Kont R) : Option R := loopE (evalE M C k48x3) 57357 0 ⟨(.g [] true (.ptr p0) :: (.any :: (.g [] true (.int .i64 i2) :: (.g [] true (.sl s3 n3) :: (rep 9 (.g [] true (.sl s13 n13) :: (.g [] true (.int .i64 i14) :: (.g [] true (.int .i64 i15) :: (rep 53 []))))))))), h⟩ Q
noncomputable def J48x19 (M : Mk) (C : Cal) (p0 : Option Ad) (i2 : Int) (s3 : SA) (n3 : Nat) (s13 : SA) (n13 : Nat) (i14 : Int) (i15 : Int) (h : Heap) (Q : Kont R) : Option R := M R (seqQ (evalE M C k48x8) (roundQ M C k48x3 57357 0 Q)) (.g [] true (.ptr p0) :: (.any :: (.g [] true (.int .i64 i2) :: (.g [] true (.sl s3 n3) :: (rep 9 (.g [] true (.sl s13 n13) :: (.g [] true (.int .i64 i14) :: (.g [] true (.int .i64 i15) :: (rep 53 []))))))))) h
theorem r48 (p0 : Option Ad) (i1x0 : Int) (s1x1 : SA) (n1x1 : Nat) (s1x2 : SA) (n1x2 : Nat) (s1x3 : SA) (n1x3 : Nat) (i1x4 : Int) (i2 : Int) (s3 : SA) (n3 : Nat) (h : Heap) : runE M C c48 [(.ptr p0), (.agg [(.int .i64 i1x0), (.sl s1x1 n1x1), (.sl s1x2 n1x2), (.sl s1x3 n1x3), (.int .i64 i1x4)]), (.int .i64 i2), (.sl s3 n3)] h = (
  L48x3 M C p0 i2 s3 n3 s1x2 n1x2 ((n1x2 : Nat) : Int) 0 h (Q48x3 M C)
  ) := by kernel_rfl
theorem cf48 : cFn Try.prog 48 = some c48 := by kernel_rfl
theorem e48 (p0 : Option Ad) (i1x0 : Int) (s1x1 : SA) (n1x1 : Nat) (s1x2 : SA) (n1x2 : Nat) (s1x3 : SA) (n1x3 : Nat) (i1x4 : Int) (i2 : Int) (s3 : SA) (n3 : Nat) (h : Heap) : E 48 [(.ptr p0), (.agg [(.int .i64 i1x0), (.sl s1x1 n1x1), (.sl s1x2 n1x2), (.sl s1x3 n1x3), (.int .i64 i1x4)]), (.int .i64 i2), (.sl s3 n3)] h = (
  L48x3 mk0 E p0 i2 s3 n3 s1x2 n1x2 ((n1x2 : Nat) : Int) 0 h (Q48x3 mk0 E)
  ) := (EV_eq (P := Try.prog) (T := T0) rfl cf48 [(.ptr p0), (.agg [(.int .i64 i1x0), (.sl s1x1 n1x1), (.sl s1x2 n1x2), (.sl s1x3 n1x3), (.int .i64 i1x4)]), (.int .i64 i2), (.sl s3 n3)] h).trans (r48 mk0 E p0 i1x0 s1x1 n1x1 s1x2 n1x2 s1x3 n1x3 i1x4 i2 s3 n3 h)
theorem L48x3xaux (p0 : Option Ad) (i2 : Int) (s3 : SA) (n3 : Nat) (s13 : SA) (n13 : Nat) (i14 : Int) (i15 : Int) (h : Heap) (Q : Kont R) : (restrF 57357 ⟨(.g [] true (.ptr p0) :: (.any :: (.g [] true (.int .i64 i2) :: (.g [] true (.sl s3 n3) :: (rep 9 (.g [] true (.sl s13 n13) :: (.g [] true (.int .i64 i14) :: (.g [] true (.int .i64 i15) :: (rep 53 []))))))))), h⟩ fun σ => evalE M C k48x3 σ (roundQ M C k48x3 57357 0 Q)) = (
  letK ((decide ((i15 : Int) < i14)) : Bool) fun b16 =>
  if b16 = true then
    (
    chk (true = true → (0 : Int) ≤ i15 ∧ (i15 : Int) < ((n13 : Nat) : Int)) <|
    atP (adP s13) true fun a17 =>
    gCells (ldN h (Ad.add a17 (Int.toNat i15 * 2)) 2) true fun l18 =>
    gI .i64 (l18[0]?) true fun i18x0 =>
    gI .i64 (l18[1]?) true fun i18x1 =>
    atP p0 true fun a20 =>
    gL (ld1 h (Ad.add a20 0)) true fun s22 n22 =>
    letK ((IntKind.wrap .i64 (i2 + i18x0)) : Int) fun i26 =>
    chk (true = true → (0 : Int) ≤ i26 ∧ (i26 : Int) < ((n22 : Nat) : Int)) <|
    atP (adP s22) true fun a27 =>
    atP p0 true fun a29 =>
    gL (ld1 h (Ad.add a29 1)) true fun s31 n31 =>
    chk (true = true → (0 : Int) ≤ i18x1 ∧ (i18x1 : Int) < ((n3 : Nat) : Int)) <|
    atP (adP s3) true fun a35 =>
    gI .i64 (ld1 h (Ad.add a35 (Int.toNat i18x1 * 1))) true fun i36 =>
    chk (true = true → (0 : Int) ≤ i36 ∧ (i36 : Int) < ((n31 : Nat) : Int)) <|
    atP (adP s31) true fun a37 =>
    gI .i64 (ld1 h (Ad.add a37 (Int.toNat i36 * 1))) true fun i38 =>
    gI .i64 (ld1 h (Ad.add (Ad.add (Ad.add a27 (Int.toNat i26 * 6)) 0) 0)) true fun i43 =>
    letK ((decide ((i43 : Int) = 20)) : Bool) fun b44 =>
    if b44 = true then
      (
      (st1 h (Ad.add (Ad.add a27 (Int.toNat i26 * 6)) 5) (.int .i64 i38)).bind fun h_2 =>
      J48x19 M C p0 i2 s3 n3 s13 n13 i14 i15 h_2 Q
      )
    else
      (
      (st1 h (Ad.add (Ad.add (Ad.add a27 (Int.toNat i26 * 6)) 0) 4) (.int .i64 1048576)).bind fun h_2 =>
      atP p0 true fun a55 =>
      gL (ld1 h_2 (Ad.add a55 2)) true fun s57 n57 =>
      letK ((IntKind.wrap .i64 (i2 + i18x0)) : Int) fun i61 =>
      newK h_2 (.cells [(.int .i64 i61), (.int .i64 i38)] (.grow 2) 0) fun h_3 =>
      (ldSl h_3 (.pos ⟨List.length h_2, 0, 0⟩) (1 * 2)).bind fun y65 =>
      (apnd h_3 (.sl s57 n57) 2 16 y65 1).bind fun r65 =>
      gL (some r65.1) true fun s65 n65 =>
      atP p0 true fun a66 =>
      (st1 r65.2 (Ad.add a66 2) (.sl s65 n65)).bind fun h_4 =>
      J48x19 M C p0 i2 s3 n3 s13 n13 i14 i15 h_4 Q
      )
    )
  else
    (
    Q (.exit 0) (S48xe0 h)
    )
  ) := by kernel_rfl
theorem L48x3xeq (p0 : Option Ad) (i2 : Int) (s3 : SA) (n3 : Nat) (s13 : SA) (n13 : Nat) (i14 : Int) (i15 : Int) (h : Heap) (Q : Kont R) : L48x3 mk0 C p0 i2 s3 n3 s13 n13 i14 i15 h Q = (
  letK ((decide ((i15 : Int) < i14)) : Bool) fun b16 =>
  if b16 = true then
    (
    chk (true = true → (0 : Int) ≤ i15 ∧ (i15 : Int) < ((n13 : Nat) : Int)) <|
    atP (adP s13) true fun a17 =>
    gCells (ldN h (Ad.add a17 (Int.toNat i15 * 2)) 2) true fun l18 =>
    gI .i64 (l18[0]?) true fun i18x0 =>
    gI .i64 (l18[1]?) true fun i18x1 =>
    atP p0 true fun a20 =>
    gL (ld1 h (Ad.add a20 0)) true fun s22 n22 =>
    letK ((IntKind.wrap .i64 (i2 + i18x0)) : Int) fun i26 =>
    chk (true = true → (0 : Int) ≤ i26 ∧ (i26 : Int) < ((n22 : Nat) : Int)) <|
    atP (adP s22) true fun a27 =>
    atP p0 true fun a29 =>
    gL (ld1 h (Ad.add a29 1)) true fun s31 n31 =>
    chk (true = true → (0 : Int) ≤ i18x1 ∧ (i18x1 : Int) < ((n3 : Nat) : Int)) <|
    atP (adP s3) true fun a35 =>
    gI .i64 (ld1 h (Ad.add a35 (Int.toNat i18x1 * 1))) true fun i36 =>
    chk (true = true → (0 : Int) ≤ i36 ∧ (i36 : Int) < ((n31 : Nat) : Int)) <|
    atP (adP s31) true fun a37 =>
    gI .i64 (ld1 h (Ad.add a37 (Int.toNat i36 * 1))) true fun i38 =>
    gI .i64 (ld1 h (Ad.add (Ad.add (Ad.add a27 (Int.toNat i26 * 6)) 0) 0)) true fun i43 =>
    letK ((decide ((i43 : Int) = 20)) : Bool) fun b44 =>
    if b44 = true then
      (
      (st1 h (Ad.add (Ad.add a27 (Int.toNat i26 * 6)) 5) (.int .i64 i38)).bind fun h_2 =>
      J48x19 mk0 C p0 i2 s3 n3 s13 n13 i14 i15 h_2 Q
      )
    else
      (
      (st1 h (Ad.add (Ad.add (Ad.add a27 (Int.toNat i26 * 6)) 0) 4) (.int .i64 1048576)).bind fun h_2 =>
      atP p0 true fun a55 =>
      gL (ld1 h_2 (Ad.add a55 2)) true fun s57 n57 =>
      letK ((IntKind.wrap .i64 (i2 + i18x0)) : Int) fun i61 =>
      newK h_2 (.cells [(.int .i64 i61), (.int .i64 i38)] (.grow 2) 0) fun h_3 =>
      (ldSl h_3 (.pos ⟨List.length h_2, 0, 0⟩) (1 * 2)).bind fun y65 =>
      (apnd h_3 (.sl s57 n57) 2 16 y65 1).bind fun r65 =>
      gL (some r65.1) true fun s65 n65 =>
      atP p0 true fun a66 =>
      (st1 r65.2 (Ad.add a66 2) (.sl s65 n65)).bind fun h_4 =>
      J48x19 mk0 C p0 i2 s3 n3 s13 n13 i14 i15 h_4 Q
      )
    )
  else
    (
    Q (.exit 0) (S48xe0 h)
    )
  ) := loop_eqn C k48x3 57357 0 (.g [] true (.ptr p0) :: (.any :: (.g [] true (.int .i64 i2) :: (.g [] true (.sl s3 n3) :: (rep 9 (.g [] true (.sl s13 n13) :: (.g [] true (.int .i64 i14) :: (.g [] true (.int .i64 i15) :: (rep 53 []))))))))) h Q (by kernel_rfl) (L48x3xaux mk0 C p0 i2 s3 n3 s13 n13 i14 i15 h Q)
theorem J48x19xaux (M : Mk) (C : Cal) (p0 : Option Ad) (i2 : Int) (s3 : SA) (n3 : Nat) (s13 : SA) (n13 : Nat) (i14 : Int) (i15 : Int) (h : Heap) (Q : Kont R) : (forceK tk (.g [] true (.ptr p0) :: (.any :: (.g [] true (.int .i64 i2) :: (.g [] true (.sl s3 n3) :: (rep 9 (.g [] true (.sl s13 n13) :: (.g [] true (.int .i64 i14) :: (.g [] true (.int .i64 i15) :: (rep 53 []))))))))) fun e => (seqQ (evalE M C k48x8) (roundQ M C k48x3 57357 0 Q)) .normal ⟨e, h⟩) = (
  letK ((IntKind.wrap .i64 (i15 + 1)) : Int) fun i68 =>
  L48x3 M C p0 i2 s3 n3 s13 n13 i14 i68 h Q
  ) := by kernel_rfl
theorem J48x19xeq (C : Cal) (p0 : Option Ad) (i2 : Int) (s3 : SA) (n3 : Nat) (s13 : SA) (n13 : Nat) (i14 : Int) (i15 : Int) (h : Heap) (Q : Kont R) : J48x19 mk0 C p0 i2 s3 n3 s13 n13 i14 i15 h Q = (
  letK ((IntKind.wrap .i64 (i15 + 1)) : Int) fun i68 =>
  L48x3 mk0 C p0 i2 s3 n3 s13 n13 i14 i68 h Q
  ) := join_eqn (seqQ (evalE mk0 C k48x8) (roundQ mk0 C k48x3 57357 0 Q)) (.g [] true (.ptr p0) :: (.any :: (.g [] true (.int .i64 i2) :: (.g [] true (.sl s3 n3) :: (rep 9 (.g [] true (.sl s13 n13) :: (.g [] true (.int .i64 i14) :: (.g [] true (.int .i64 i15) :: (rep 53 []))))))))) h (J48x19xaux mk0 C p0 i2 s3 n3 s13 n13 i14 i15 h Q)
theorem X48x3xe0 (M : Mk) (C : Cal) (h : Heap) : Q48x3 M C (.exit 0) (S48xe0 h) = (
  some (.tup [], h)
  ) := by kernel_rfl
end
end Go.Proofs.Ytmfmnbldngfelaa.I
