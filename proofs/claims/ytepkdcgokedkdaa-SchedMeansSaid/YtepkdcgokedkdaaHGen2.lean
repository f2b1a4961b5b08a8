/- Parts of the proof, printed. -/
import Derived.Test.YtepkdcgokedkdaaHGen
import Derived.KernelRfl
set_option linter.unusedVariables false
set_option maxRecDepth 100000
namespace Go.Proofs.Ytepkdcgokedkdaa.H
open Go Go.Proofs.Ytepkdcgokedkdaa.Abs Go.Proofs
section
variable {R : Type} (M : Mk) (C : Cal)
def k13x5 : AC := .ret
def k13x4 : AC := .seq (.mask 12) k13x5
def k13x3 : AC := .mask 1
def k13x2 : AC := .seq (.cond (.tmp 12)
   (.seq (.ops false [
      ⟨(some 2), .move (.c (.int .i64 0)), none, []⟩,
      ⟨(some 3), .move (.c (.int .i64 2)), none, []⟩]) k13x4)
   (.skip)) k13x3
def k13x13 : AC := .exit 0
def k13x12 : AC := .mask 57345
def k13x22 : AC := .ret
def k13x21 : AC := .seq (.mask 12) k13x22
def k13x20 : AC := .mask 57377
def k13x19 : AC := .seq (.cond (.tmp 22)
   (.seq (.ops false [
      ⟨(some 23), .move (.tmp 6), none, []⟩,
      ⟨(some 2), .move (.c (.int .i64 0)), none, []⟩,
      ⟨(some 3), .move (.tmp 23), none, []⟩]) k13x21)
   (.skip)) k13x20
def k13x18 : AC := .seq (.ops false [
    ⟨(some 21), .move (.tmp 6), none, []⟩,
    ⟨(some 22), .bin .other .neq (.tmp 21) (.c (.int .i64 0)), none, []⟩]) k13x19
def k13x26 : AC := .ret
def k13x25 : AC := .seq (.mask 12) k13x26
def k13x24 : AC := .mask 57345
def k13x23 : AC := .seq (.cond (.tmp 27)
   (.seq (.ops false [
      ⟨(some 2), .move (.c (.int .i64 0)), none, []⟩,
      ⟨(some 3), .move (.c (.int .i64 3)), none, []⟩]) k13x25)
   (.skip)) k13x24
def k13x17 : AC := .seq (.ops false [
    ⟨(some 24), .fieldAddr 0 (.tmp 5), none, []⟩,
    ⟨(some 25), .load (.cell (.int .i64)) (.tmp 24), none, []⟩,
    ⟨(some 26), .call 29 [(.tmp 25)] [(.cell .bool)] (.bool false), none, []⟩,
    ⟨(some 27), .un .not (.tmp 26), none, []⟩]) k13x23
def k13x16 : AC := .seq (.seq (.ops false [
    ⟨(some 19), .load (.agg [(.int .i64), (.int .i64), (.int .i64), (.int .i64), (.int .i64)]) (.tmp 5), none, []⟩,
    ⟨(some 20), .call 28 [(.tmp 19)] [(.cell (.int .i64))] (.int .i64 0), none, []⟩,
    ⟨(some 6), .move (.tmp 20), none, []⟩]) k13x18) k13x17
def k13x15 : AC := .mask 57345
def k13x14 : AC := .ops false [
    ⟨(some 28), .bin .other .add (.tmp 15) (.c (.int .i64 1)), none, []⟩,
    ⟨(some 15), .move (.tmp 28), none, []⟩]
def k13x11 : AC := .seq (.seq (.block 1 (.seq (.ops false [
     ⟨(some 17), .indexAddr 5 (.tmp 13) (.tmp 15), none, []⟩,
     ⟨(some 18), .load (.agg [(.int .i64), (.int .i64), (.int .i64), (.int .i64), (.int .i64)]) (.tmp 17), none, []⟩,
     ⟨(some 5), .allocL [(.int .i64 0), (.int .i64 0), (.int .i64 0), (.int .i64 0), (.int .i64 0)], none, []⟩,
     ⟨none, .store 5 (.tmp 5) (.tmp 18), none, []⟩]) k13x16)) k13x15) k13x14
def k13x10 : AC := .seq (.seq (.cond (.tmp 16)
   (.skip)
   (.seq (.mask 1) k13x13)) k13x12) k13x11
def k13x9 : AC := .seq (.ops false [
    ⟨(some 16), .bin .other .lss (.tmp 15) (.tmp 14), none, []⟩]) k13x10
def k13x8 : AC := .mask 1
def k13x7 : AC := .seq (.block 0 (.loop 57345 1 k13x9)) k13x8
def k13x35 : AC := .exit 2
def k13x34 : AC := .mask 3758096512
def k13x38 : AC := .ops false [
    ⟨(some 36), .load (.raw 20) (.tmp 7), none, []⟩,
    ⟨(some 37), .load (.agg [(.int .i64), (.int .i64), (.int .i64), (.int .i64), (.int .i64)]) (.tmp 9), none, []⟩,
    ⟨(some 38), .call 30 [(.tmp 36), (.tmp 37), (.c (.int .i64 0))] [(.raw 20), (.cell (.int .i64)), (.cell (.int .i64))] .opq, none, []⟩,
    ⟨(some 35), .move (.tmp 38), none, []⟩,
    ⟨(some 39), .extract (.tmp 35) 0, none, []⟩,
    ⟨(some 40), .extract (.tmp 35) 1, none, []⟩,
    ⟨(some 41), .extract (.tmp 35) 2, none, []⟩,
    ⟨none, .store 20 (.tmp 7) (.tmp 39), none, []⟩]
def k13x37 : AC := .mask 3758096512
def k13x36 : AC := .ops false [
    ⟨(some 42), .bin .other .add (.tmp 31) (.c (.int .i64 1)), none, []⟩,
    ⟨(some 31), .move (.tmp 42), none, []⟩]
def k13x33 : AC := .seq (.seq (.block 3 (.seq (.ops false [
     ⟨(some 33), .indexAddr 5 (.tmp 29) (.tmp 31), none, []⟩,
     ⟨(some 34), .load (.agg [(.int .i64), (.int .i64), (.int .i64), (.int .i64), (.int .i64)]) (.tmp 33), none, []⟩,
     ⟨(some 9), .allocL [(.int .i64 0), (.int .i64 0), (.int .i64 0), (.int .i64 0), (.int .i64 0)], none, []⟩,
     ⟨none, .store 5 (.tmp 9) (.tmp 34), none, []⟩]) k13x38)) k13x37) k13x36
def k13x32 : AC := .seq (.seq (.cond (.tmp 32)
   (.skip)
   (.seq (.mask 128) k13x35)) k13x34) k13x33
def k13x31 : AC := .seq (.ops false [
    ⟨(some 32), .bin .other .lss (.tmp 31) (.tmp 30), none, []⟩]) k13x32
def k13x30 : AC := .mask 128
def k13x29 : AC := .seq (.block 2 (.loop 3758096512 128 k13x31)) k13x30
def k13x40 : AC := .ret
def k13x39 : AC := .seq (.mask 12) k13x40
def k13x28 : AC := .seq (.ops false [
    ⟨(some 43), .fieldAddr 2 (.tmp 7), none, []⟩,
    ⟨(some 44), .load (.cell (.int .i64)) (.tmp 43), none, []⟩,
    ⟨(some 2), .move (.tmp 44), none, []⟩,
    ⟨(some 3), .move (.c (.int .i64 0)), none, []⟩]) k13x39
def k13x27 : AC := .seq (.seq (.ops false [
    ⟨(some 29), .move (.tmp 0), none, []⟩,
    ⟨(some 30), .lenSl (.tmp 29), none, []⟩,
    ⟨(some 31), .move (.c (.int .i64 0)), none, []⟩]) k13x29) k13x28
def k13x6 : AC := .seq (.ops false [
    ⟨(some 7), .allocL [(.int .i64 0), (.int .i64 0), (.int .i64 0), (.int .i64 0), (.int .i64 0), (.int .i64 0), (.int .i64 0), (.int .i64 0), (.int .i64 0), (.int .i64 0), (.int .i64 0), (.int .i64 0), (.int .i64 0), (.int .i64 0), (.int .i64 0), (.int .i64 0), (.int .i64 0), (.int .i64 0), (.int .i64 0), (.sl .nil 0)], none, []⟩]) k13x27
def k13x1 : AC := .seq (.seq (.ops false [
    ⟨(some 13), .move (.tmp 0), none, []⟩,
    ⟨(some 14), .lenSl (.tmp 13), none, []⟩,
    ⟨(some 15), .move (.c (.int .i64 0)), none, []⟩]) k13x7) k13x6
def k13x0 : AC := .seq (.seq (.ops false [
    ⟨(some 10), .move (.tmp 0), none, []⟩,
    ⟨(some 11), .lenSl (.tmp 10), none, []⟩,
    ⟨(some 12), .bin .other .gtr (.tmp 11) (.c (.int .i64 4096)), none, []⟩]) k13x2) k13x1
/-- provenance/timing.Cycles -/
def c13 : AFn := ⟨45, [.tmp 2, .tmp 3],
  .seq (.ops false [
    ⟨(some 2), .move (.c (.int .i64 0)), none, []⟩,
    ⟨(some 3), .move (.c (.int .i64 0)), none, []⟩]) k13x0⟩
def S13xr (i2 : Int) (i3 : Int) (h : Heap) : St := ⟨(.any :: .any :: (.g [] true (.int .i64 i2) :: (.g [] true (.int .i64 i3) :: (rep 41 [])))), h⟩
def S13xe0 (s0 : SA) (n0 : Nat) (h : Heap) : St := ⟨(.g [] true (.sl s0 n0) :: (rep 44 [])), h⟩
def S13xe2 (l7 : List AV) (h : Heap) : St := ⟨(rep 7 (.box l7 :: (rep 37 []))), h⟩
noncomputable def Q13x9 (M : Mk) (C : Cal) : Kont (AV × Heap) := (blockQ 0 (seqQ (evalE M C k13x8) (seqQ (evalE M C k13x6) (endQ [.tmp 2, .tmp 3]))))
noncomputable def L13x9 (s0 : SA) (n0 : Nat) (s13 : SA) (n13 : Nat) (i14 : Int) (i15 : Int) (h : Heap) (Q : Kont R) : Option R := loopE (evalE M C k13x9) 57345 1 ⟨(.g [] true (.sl s0 n0) :: (rep 12 (.g [] true (.sl s13 n13) :: (.g [] true (.int .i64 i14) :: (.g [] true (.int .i64 i15) :: (rep 29 [])))))), h⟩ Q
noncomputable def Q13x31 (M : Mk) (C : Cal) : Kont (AV × Heap) := (blockQ 2 (seqQ (evalE M C k13x30) (seqQ (evalE M C k13x28) (endQ [.tmp 2, .tmp 3]))))
noncomputable def L13x31 (l7 : List AV) (s29 : SA) (n29 : Nat) (i30 : Int) (i31 : Int) (h : Heap) (Q : Kont R) : Option R := loopE (evalE M C k13x31) 3758096512 128 ⟨(rep 7 (.box l7 :: (rep 21 (.g [] true (.sl s29 n29) :: (.g [] true (.int .i64 i30) :: (.g [] true (.int .i64 i31) :: (rep 13 []))))))), h⟩ Q
theorem r13 (s0 : SA) (n0 : Nat) (h : Heap) : runE M C c13 [(.sl s0 n0)] h = (
  letK ((decide ((4096 : Int) < ((n0 : Nat) : Int))) : Bool) fun b12 =>
  if b12 = true then
    (
    some (.tup [(.int .i64 0), (.int .i64 2)], h)
    )
  else
    (
    L13x9 M C s0 n0 s0 n0 ((n0 : Nat) : Int) 0 h (Q13x9 M C)
    )
  ) := by kernel_rfl
theorem cf13 : cFn Try.prog 13 = some c13 := by kernel_rfl
theorem e13 (s0 : SA) (n0 : Nat) (h : Heap) : E 13 [(.sl s0 n0)] h = (
  letK ((decide ((4096 : Int) < ((n0 : Nat) : Int))) : Bool) fun b12 =>
  if b12 = true then
    (
    some (.tup [(.int .i64 0), (.int .i64 2)], h)
    )
  else
    (
    L13x9 mk0 E s0 n0 s0 n0 ((n0 : Nat) : Int) 0 h (Q13x9 mk0 E)
    )
  ) := (EV_eq (P := Try.prog) (T := T0) rfl cf13 [(.sl s0 n0)] h).trans (r13 mk0 E s0 n0 h)
theorem L13x9xaux (s0 : SA) (n0 : Nat) (s13 : SA) (n13 : Nat) (i14 : Int) (i15 : Int) (h : Heap) (Q : Kont R) : (restrF 57345 ⟨(.g [] true (.sl s0 n0) :: (rep 12 (.g [] true (.sl s13 n13) :: (.g [] true (.int .i64 i14) :: (.g [] true (.int .i64 i15) :: (rep 29 [])))))), h⟩ fun σ => evalE M C k13x9 σ (roundQ M C k13x9 57345 1 Q)) = (
  letK ((decide ((i15 : Int) < i14)) : Bool) fun b16 =>
  if b16 = true then
    (
    chk (true = true → (0 : Int) ≤ i15 ∧ (i15 : Int) < ((n13 : Nat) : Int)) <|
    atP (adP s13) true fun a17 =>
    gCells (ldN h (Ad.add a17 (Int.toNat i15 * 5)) 5) true fun l18 =>
    gI .i64 (l18[0]?) true fun i18x0 =>
    gI .i64 (l18[1]?) true fun i18x1 =>
    gI .i64 (l18[2]?) true fun i18x2 =>
    gI .i64 (l18[3]?) true fun i18x3 =>
    gI .i64 (l18[4]?) true fun i18x4 =>
    (C 28 [(.agg [(.int .i64 i18x0), (.int .i64 i18x1), (.int .i64 i18x2), (.int .i64 i18x3), (.int .i64 i18x4)])] h).bind fun r20 =>
    gI .i64 (some r20.1) true fun i20 =>
    letK ((!decide ((i20 : Int) = 0)) : Bool) fun b22 =>
    if b22 = true then
      (
      Q .ret (S13xr 0 i20 r20.2)
      )
    else
      (
      (C 29 [(.int .i64 i18x0)] r20.2).bind fun r26 =>
      gB (some r26.1) true fun b26 =>
      if (!b26) = true then
        (
        Q .ret (S13xr 0 3 r26.2)
        )
      else
        (
        letK ((IntKind.wrap .i64 (i15 + 1)) : Int) fun i28 =>
        L13x9 M C s0 n0 s13 n13 i14 i28 r26.2 Q
        )
      )
    )
  else
    (
    Q (.exit 0) (S13xe0 s0 n0 h)
    )
  ) := by kernel_rfl
theorem L13x9xeq (s0 : SA) (n0 : Nat) (s13 : SA) (n13 : Nat) (i14 : Int) (i15 : Int) (h : Heap) (Q : Kont R) : L13x9 mk0 C s0 n0 s13 n13 i14 i15 h Q = (
  letK ((decide ((i15 : Int) < i14)) : Bool) fun b16 =>
  if b16 = true then
    (
    chk (true = true → (0 : Int) ≤ i15 ∧ (i15 : Int) < ((n13 : Nat) : Int)) <|
    atP (adP s13) true fun a17 =>
    gCells (ldN h (Ad.add a17 (Int.toNat i15 * 5)) 5) true fun l18 =>
    gI .i64 (l18[0]?) true fun i18x0 =>
    gI .i64 (l18[1]?) true fun i18x1 =>
    gI .i64 (l18[2]?) true fun i18x2 =>
    gI .i64 (l18[3]?) true fun i18x3 =>
    gI .i64 (l18[4]?) true fun i18x4 =>
    (C 28 [(.agg [(.int .i64 i18x0), (.int .i64 i18x1), (.int .i64 i18x2), (.int .i64 i18x3), (.int .i64 i18x4)])] h).bind fun r20 =>
    gI .i64 (some r20.1) true fun i20 =>
    letK ((!decide ((i20 : Int) = 0)) : Bool) fun b22 =>
    if b22 = true then
      (
      Q .ret (S13xr 0 i20 r20.2)
      )
    else
      (
      (C 29 [(.int .i64 i18x0)] r20.2).bind fun r26 =>
      gB (some r26.1) true fun b26 =>
      if (!b26) = true then
        (
        Q .ret (S13xr 0 3 r26.2)
        )
      else
        (
        letK ((IntKind.wrap .i64 (i15 + 1)) : Int) fun i28 =>
        L13x9 mk0 C s0 n0 s13 n13 i14 i28 r26.2 Q
        )
      )
    )
  else
    (
    Q (.exit 0) (S13xe0 s0 n0 h)
    )
  ) := loop_eqn C k13x9 57345 1 (.g [] true (.sl s0 n0) :: (rep 12 (.g [] true (.sl s13 n13) :: (.g [] true (.int .i64 i14) :: (.g [] true (.int .i64 i15) :: (rep 29 [])))))) h Q (by kernel_rfl) (L13x9xaux mk0 C s0 n0 s13 n13 i14 i15 h Q)
theorem X13x9xr (M : Mk) (C : Cal) (i2 : Int) (i3 : Int) (h : Heap) : Q13x9 M C .ret (S13xr i2 i3 h) = (
  some (.tup [(.int .i64 i2), (.int .i64 i3)], h)
  ) := by kernel_rfl
theorem X13x9xe0 (M : Mk) (C : Cal) (s0 : SA) (n0 : Nat) (h : Heap) : Q13x9 M C (.exit 0) (S13xe0 s0 n0 h) = (
  L13x31 M C [(.int .i64 0), (.int .i64 0), (.int .i64 0), (.int .i64 0), (.int .i64 0), (.int .i64 0), (.int .i64 0), (.int .i64 0), (.int .i64 0), (.int .i64 0), (.int .i64 0), (.int .i64 0), (.int .i64 0), (.int .i64 0), (.int .i64 0), (.int .i64 0), (.int .i64 0), (.int .i64 0), (.int .i64 0), (.sl .nil 0)] s0 n0 ((n0 : Nat) : Int) 0 h (Q13x31 M C)
  ) := by kernel_rfl
theorem L13x31xaux (l7 : List AV) (s29 : SA) (n29 : Nat) (i30 : Int) (i31 : Int) (h : Heap) (Q : Kont R) : (restrF 3758096512 ⟨(rep 7 (.box l7 :: (rep 21 (.g [] true (.sl s29 n29) :: (.g [] true (.int .i64 i30) :: (.g [] true (.int .i64 i31) :: (rep 13 []))))))), h⟩ fun σ => evalE M C k13x31 σ (roundQ M C k13x31 3758096512 128 Q)) = (
  letK ((decide ((i31 : Int) < i30)) : Bool) fun b32 =>
  if b32 = true then
    (
    chk (true = true → (0 : Int) ≤ i31 ∧ (i31 : Int) < ((n29 : Nat) : Int)) <|
    atP (adP s29) true fun a33 =>
    gCells (ldN h (Ad.add a33 (Int.toNat i31 * 5)) 5) true fun l34 =>
    gI .i64 (l34[0]?) true fun i34x0 =>
    gI .i64 (l34[1]?) true fun i34x1 =>
    gI .i64 (l34[2]?) true fun i34x2 =>
    gI .i64 (l34[3]?) true fun i34x3 =>
    gI .i64 (l34[4]?) true fun i34x4 =>
    chk (true = true → 0 + 20 ≤ List.length l7) <|
    (C 30 [(.agg ((List.drop 0 l7).take 20)), (.agg [(.int .i64 i34x0), (.int .i64 i34x1), (.int .i64 i34x2), (.int .i64 i34x3), (.int .i64 i34x4)]), (.int .i64 0)] h).bind fun r38 =>
    gT 3 r38.1 true fun u38 =>
    gA (List.getD u38 0 .opq) true fun l38x0 =>
    chk (true = true → l38x0.length = 20) <|
    gI .i64 (some (List.getD u38 1 .opq)) true fun i38x1 =>
    gI .i64 (some (List.getD u38 2 .opq)) true fun i38x2 =>
    chk (List.length l38x0 = 20 ∧ flatL l38x0 = true ∧ 0 + 20 ≤ List.length l7) <|
    letK (splice 0 l38x0 l7) fun lx =>
    letK ((IntKind.wrap .i64 (i31 + 1)) : Int) fun i42 =>
    L13x31 M C lx s29 n29 i30 i42 r38.2 Q
    )
  else
    (
    Q (.exit 2) (S13xe2 l7 h)
    )
  ) := by kernel_rfl
theorem L13x31xeq (l7 : List AV) (s29 : SA) (n29 : Nat) (i30 : Int) (i31 : Int) (h : Heap) (Q : Kont R) : L13x31 mk0 C l7 s29 n29 i30 i31 h Q = (
  letK ((decide ((i31 : Int) < i30)) : Bool) fun b32 =>
  if b32 = true then
    (
    chk (true = true → (0 : Int) ≤ i31 ∧ (i31 : Int) < ((n29 : Nat) : Int)) <|
    atP (adP s29) true fun a33 =>
    gCells (ldN h (Ad.add a33 (Int.toNat i31 * 5)) 5) true fun l34 =>
    gI .i64 (l34[0]?) true fun i34x0 =>
    gI .i64 (l34[1]?) true fun i34x1 =>
    gI .i64 (l34[2]?) true fun i34x2 =>
    gI .i64 (l34[3]?) true fun i34x3 =>
    gI .i64 (l34[4]?) true fun i34x4 =>
    chk (true = true → 0 + 20 ≤ List.length l7) <|
    (C 30 [(.agg ((List.drop 0 l7).take 20)), (.agg [(.int .i64 i34x0), (.int .i64 i34x1), (.int .i64 i34x2), (.int .i64 i34x3), (.int .i64 i34x4)]), (.int .i64 0)] h).bind fun r38 =>
    gT 3 r38.1 true fun u38 =>
    gA (List.getD u38 0 .opq) true fun l38x0 =>
    chk (true = true → l38x0.length = 20) <|
    gI .i64 (some (List.getD u38 1 .opq)) true fun i38x1 =>
    gI .i64 (some (List.getD u38 2 .opq)) true fun i38x2 =>
    chk (List.length l38x0 = 20 ∧ flatL l38x0 = true ∧ 0 + 20 ≤ List.length l7) <|
    letK (splice 0 l38x0 l7) fun lx =>
    letK ((IntKind.wrap .i64 (i31 + 1)) : Int) fun i42 =>
    L13x31 mk0 C lx s29 n29 i30 i42 r38.2 Q
    )
  else
    (
    Q (.exit 2) (S13xe2 l7 h)
    )
  ) := loop_eqn C k13x31 3758096512 128 (rep 7 (.box l7 :: (rep 21 (.g [] true (.sl s29 n29) :: (.g [] true (.int .i64 i30) :: (.g [] true (.int .i64 i31) :: (rep 13 []))))))) h Q (by kernel_rfl) (L13x31xaux mk0 C l7 s29 n29 i30 i31 h Q)
theorem X13x31xe2 (M : Mk) (C : Cal) (l7 : List AV) (h : Heap) : Q13x31 M C (.exit 2) (S13xe2 l7 h) = (
  gI .i64 (l7[2]?) true fun i44 =>
  some (.tup [(.int .i64 i44), (.int .i64 0)], h)
  ) := by kernel_rfl
def k12x9 : AC := .exit 0
def k12x8 : AC := .mask 7176
def k12x14 : AC := .join 7176
def k12x13 : AC := .seq (.cond (.tmp 23)
   (.ops false [
      ⟨(some 24), .move (.tmp 3), none, []⟩,
      ⟨(some 25), .load (.agg [(.int .i64), (.int .i64), (.int .i64), (.int .i64), (.int .i64)]) (.tmp 5), none, []⟩,
      ⟨(some 26), .buildSl [(.int .i64 0), (.int .i64 0), (.int .i64 0), (.int .i64 0), (.int .i64 0)] 5 [(0, (.tmp 25))], none, []⟩,
      ⟨(some 27), .append [(.int .i64 0), (.int .i64 0), (.int .i64 0), (.int .i64 0), (.int .i64 0)] 5 40 (.tmp 24) (.tmp 26), none, []⟩,
      ⟨(some 3), .move (.tmp 27), none, []⟩])
   (.skip)) k12x14
def k12x12 : AC := .seq (.ops true [
    ⟨(some 16), .load (.agg [(.int .i64), (.int .i64), (.int .i64), (.int .i64), (.int .i64)]) (.tmp 5), none, []⟩,
    ⟨(some 17), .call 28 [(.tmp 16)] [(.cell (.int .i64))] (.int .i64 0), none, []⟩,
    ⟨(some 18), .bin .other .eql (.tmp 17) (.c (.int .i64 0)), none, []⟩,
    ⟨(some 19), .move (.tmp 18), none, []⟩,
    ⟨(some 20), .fieldAddr 0 (.tmp 5), (some (19, true)), []⟩,
    ⟨(some 21), .load (.cell (.int .i64)) (.tmp 20), (some (19, true)), []⟩,
    ⟨(some 22), .call 29 [(.tmp 21)] [(.cell .bool)] (.bool false), (some (19, true)), []⟩,
    ⟨(some 23), .pick (.tmp 19) (.tmp 22) (.c (.bool false)), none, []⟩]) k12x13
def k12x11 : AC := .mask 7176
def k12x10 : AC := .ops false [
    ⟨(some 28), .bin .other .add (.tmp 12) (.c (.int .i64 1)), none, []⟩,
    ⟨(some 12), .move (.tmp 28), none, []⟩]
def k12x7 : AC := .seq (.seq (.block 1 (.seq (.ops false [
     ⟨(some 14), .indexAddr 5 (.tmp 10) (.tmp 12), none, []⟩,
     ⟨(some 15), .load (.agg [(.int .i64), (.int .i64), (.int .i64), (.int .i64), (.int .i64)]) (.tmp 14), none, []⟩,
     ⟨(some 5), .allocL [(.int .i64 0), (.int .i64 0), (.int .i64 0), (.int .i64 0), (.int .i64 0)], none, []⟩,
     ⟨none, .store 5 (.tmp 5) (.tmp 15), none, []⟩]) k12x12)) k12x11) k12x10
def k12x6 : AC := .seq (.seq (.cond (.tmp 13)
   (.skip)
   (.seq (.mask 8) k12x9)) k12x8) k12x7
def k12x5 : AC := .seq (.ops false [
    ⟨(some 13), .bin .other .lss (.tmp 12) (.tmp 11), none, []⟩]) k12x6
def k12x4 : AC := .mask 8
def k12x3 : AC := .seq (.block 0 (.loop 7176 8 k12x5)) k12x4
def k12x17 : AC := .ret
def k12x16 : AC := .seq (.mask 4) k12x17
def k12x2 : AC := .seq (.ops false [
    ⟨(some 29), .move (.tmp 3), none, []⟩,
    ⟨(some 2), .move (.tmp 29), none, []⟩]) k12x16
def k12x1 : AC := .seq (.seq (.ops false [
    ⟨(some 6), .move (.tmp 0), none, []⟩,
    ⟨(some 7), .move (.tmp 0), none, []⟩,
    ⟨(some 8), .lenSl (.tmp 7), none, []⟩,
    ⟨(some 9), .mm false [(.tmp 8), (.c (.int .i64 60))], none, []⟩,
    ⟨(some 10), .slice 5 (.tmp 6) none (some (.tmp 9)), none, []⟩,
    ⟨(some 11), .lenSl (.tmp 10), none, []⟩,
    ⟨(some 12), .move (.c (.int .i64 0)), none, []⟩]) k12x3) k12x2
def k12x0 : AC := .seq (.ops false [
    ⟨(some 3), .move (.c (.sl .nil 0)), none, []⟩]) k12x1
/-- provenance/provenancekeep4.straight -/
def c12 : AFn := ⟨30, [.tmp 2],
  .seq (.ops false [
    ⟨(some 2), .move (.c (.sl .nil 0)), none, []⟩]) k12x0⟩
def S12xe0 (s3 : SA) (n3 : Nat) (h : Heap) : St := ⟨(rep 3 (.g [] true (.sl s3 n3) :: (rep 26 []))), h⟩
noncomputable def Q12x5 (M : Mk) (C : Cal) : Kont (AV × Heap) := (blockQ 0 (seqQ (evalE M C k12x4) (seqQ (evalE M C k12x2) (endQ [.tmp 2]))))
noncomputable def L12x5 (s3 : SA) (n3 : Nat) (s10 : SA) (n10 : Nat) (i11 : Int) (i12 : Int) (h : Heap) (Q : Kont R) : Option R := loopE (evalE M C k12x5) 7176 8 ⟨(rep 3 (.g [] true (.sl s3 n3) :: (rep 6 (.g [] true (.sl s10 n10) :: (.g [] true (.int .i64 i11) :: (.g [] true (.int .i64 i12) :: (rep 17 []))))))), h⟩ Q
noncomputable def J12x15 (M : Mk) (C : Cal) (s3 : SA) (n3 : Nat) (s10 : SA) (n10 : Nat) (i11 : Int) (i12 : Int) (h : Heap) (Q : Kont R) : Option R := M R (blockQ 1 (seqQ (evalE M C k12x11) (seqQ (evalE M C k12x10) (roundQ M C k12x5 7176 8 Q)))) (rep 3 (.g [] true (.sl s3 n3) :: (rep 6 (.g [] true (.sl s10 n10) :: (.g [] true (.int .i64 i11) :: (.g [] true (.int .i64 i12) :: (rep 17 []))))))) h
theorem r12 (s0 : SA) (n0 : Nat) (h : Heap) : runE M C c12 [(.sl s0 n0)] h = (
  letK ((foldMM false ((n0 : Nat) : Int) [60]) : Int) fun i9 =>
  chkC (true = true → (0 : Int) ≤ i9 ∧ hiOk h s0 n0 5 i9) <|
  L12x5 M C .nil 0 s0 (Int.toNat i9) (((Int.toNat i9) : Nat) : Int) 0 h (Q12x5 M C)
  ) := by kernel_rfl
theorem cf12 : cFn Try.prog 12 = some c12 := by kernel_rfl
theorem e12 (s0 : SA) (n0 : Nat) (h : Heap) : E 12 [(.sl s0 n0)] h = (
  letK ((foldMM false ((n0 : Nat) : Int) [60]) : Int) fun i9 =>
  chkC (true = true → (0 : Int) ≤ i9 ∧ hiOk h s0 n0 5 i9) <|
  L12x5 mk0 E .nil 0 s0 (Int.toNat i9) (((Int.toNat i9) : Nat) : Int) 0 h (Q12x5 mk0 E)
  ) := (EV_eq (P := Try.prog) (T := T0) rfl cf12 [(.sl s0 n0)] h).trans (r12 mk0 E s0 n0 h)
theorem L12x5xaux (s3 : SA) (n3 : Nat) (s10 : SA) (n10 : Nat) (i11 : Int) (i12 : Int) (h : Heap) (Q : Kont R) : (restrF 7176 ⟨(rep 3 (.g [] true (.sl s3 n3) :: (rep 6 (.g [] true (.sl s10 n10) :: (.g [] true (.int .i64 i11) :: (.g [] true (.int .i64 i12) :: (rep 17 []))))))), h⟩ fun σ => evalE M C k12x5 σ (roundQ M C k12x5 7176 8 Q)) = (
  letK ((decide ((i12 : Int) < i11)) : Bool) fun b13 =>
  if b13 = true then
    (
    chk (true = true → (0 : Int) ≤ i12 ∧ (i12 : Int) < ((n10 : Nat) : Int)) <|
    atP (adP s10) true fun a14 =>
    gCells (ldN h (Ad.add a14 (Int.toNat i12 * 5)) 5) true fun l15 =>
    gI .i64 (l15[0]?) true fun i15x0 =>
    gI .i64 (l15[1]?) true fun i15x1 =>
    gI .i64 (l15[2]?) true fun i15x2 =>
    gI .i64 (l15[3]?) true fun i15x3 =>
    gI .i64 (l15[4]?) true fun i15x4 =>
    (C 28 [(.agg [(.int .i64 i15x0), (.int .i64 i15x1), (.int .i64 i15x2), (.int .i64 i15x3), (.int .i64 i15x4)])] h).bind fun r17 =>
    gI .i64 (some r17.1) true fun i17 =>
    letK ((decide ((i17 : Int) = 0)) : Bool) fun b18 =>
    gI .i64 (some (.int .i64 i15x0)) b18 fun i21 =>
    (callO b18 (C 29 [(.int .i64 i21)] r17.2) (.bool false) r17.2).bind fun r22 =>
    gB (some r22.1) b18 fun b22 =>
    letK ((if b18 = true then b22 else false) : Bool) fun b23 =>
    if b23 = true then
      (
      newK r22.2 (.cells [(.int .i64 i15x0), (.int .i64 i15x1), (.int .i64 i15x2), (.int .i64 i15x3), (.int .i64 i15x4)] (.grow 5) 0) fun h_2 =>
      (ldSl h_2 (.pos ⟨List.length r22.2, 0, 0⟩) (1 * 5)).bind fun y27 =>
      (apnd h_2 (.sl s3 n3) 5 40 y27 1).bind fun r27 =>
      gL (some r27.1) true fun s27 n27 =>
      J12x15 M C s27 n27 s10 n10 i11 i12 r27.2 Q
      )
    else
      (
      J12x15 M C s3 n3 s10 n10 i11 i12 r22.2 Q
      )
    )
  else
    (
    Q (.exit 0) (S12xe0 s3 n3 h)
    )
  ) := by kernel_rfl
theorem L12x5xeq (s3 : SA) (n3 : Nat) (s10 : SA) (n10 : Nat) (i11 : Int) (i12 : Int) (h : Heap) (Q : Kont R) : L12x5 mk0 C s3 n3 s10 n10 i11 i12 h Q = (
  letK ((decide ((i12 : Int) < i11)) : Bool) fun b13 =>
  if b13 = true then
    (
    chk (true = true → (0 : Int) ≤ i12 ∧ (i12 : Int) < ((n10 : Nat) : Int)) <|
    atP (adP s10) true fun a14 =>
    gCells (ldN h (Ad.add a14 (Int.toNat i12 * 5)) 5) true fun l15 =>
    gI .i64 (l15[0]?) true fun i15x0 =>
    gI .i64 (l15[1]?) true fun i15x1 =>
    gI .i64 (l15[2]?) true fun i15x2 =>
    gI .i64 (l15[3]?) true fun i15x3 =>
    gI .i64 (l15[4]?) true fun i15x4 =>
    (C 28 [(.agg [(.int .i64 i15x0), (.int .i64 i15x1), (.int .i64 i15x2), (.int .i64 i15x3), (.int .i64 i15x4)])] h).bind fun r17 =>
    gI .i64 (some r17.1) true fun i17 =>
    letK ((decide ((i17 : Int) = 0)) : Bool) fun b18 =>
    gI .i64 (some (.int .i64 i15x0)) b18 fun i21 =>
    (callO b18 (C 29 [(.int .i64 i21)] r17.2) (.bool false) r17.2).bind fun r22 =>
    gB (some r22.1) b18 fun b22 =>
    letK ((if b18 = true then b22 else false) : Bool) fun b23 =>
    if b23 = true then
      (
      newK r22.2 (.cells [(.int .i64 i15x0), (.int .i64 i15x1), (.int .i64 i15x2), (.int .i64 i15x3), (.int .i64 i15x4)] (.grow 5) 0) fun h_2 =>
      (ldSl h_2 (.pos ⟨List.length r22.2, 0, 0⟩) (1 * 5)).bind fun y27 =>
      (apnd h_2 (.sl s3 n3) 5 40 y27 1).bind fun r27 =>
      gL (some r27.1) true fun s27 n27 =>
      J12x15 mk0 C s27 n27 s10 n10 i11 i12 r27.2 Q
      )
    else
      (
      J12x15 mk0 C s3 n3 s10 n10 i11 i12 r22.2 Q
      )
    )
  else
    (
    Q (.exit 0) (S12xe0 s3 n3 h)
    )
  ) := loop_eqn C k12x5 7176 8 (rep 3 (.g [] true (.sl s3 n3) :: (rep 6 (.g [] true (.sl s10 n10) :: (.g [] true (.int .i64 i11) :: (.g [] true (.int .i64 i12) :: (rep 17 []))))))) h Q (by kernel_rfl) (L12x5xaux mk0 C s3 n3 s10 n10 i11 i12 h Q)
theorem J12x15xaux (M : Mk) (C : Cal) (s3 : SA) (n3 : Nat) (s10 : SA) (n10 : Nat) (i11 : Int) (i12 : Int) (h : Heap) (Q : Kont R) : (forceK tk (rep 3 (.g [] true (.sl s3 n3) :: (rep 6 (.g [] true (.sl s10 n10) :: (.g [] true (.int .i64 i11) :: (.g [] true (.int .i64 i12) :: (rep 17 []))))))) fun e => (blockQ 1 (seqQ (evalE M C k12x11) (seqQ (evalE M C k12x10) (roundQ M C k12x5 7176 8 Q)))) .normal ⟨e, h⟩) = (
  letK ((IntKind.wrap .i64 (i12 + 1)) : Int) fun i28 =>
  L12x5 M C s3 n3 s10 n10 i11 i28 h Q
  ) := by kernel_rfl
theorem J12x15xeq (C : Cal) (s3 : SA) (n3 : Nat) (s10 : SA) (n10 : Nat) (i11 : Int) (i12 : Int) (h : Heap) (Q : Kont R) : J12x15 mk0 C s3 n3 s10 n10 i11 i12 h Q = (
  letK ((IntKind.wrap .i64 (i12 + 1)) : Int) fun i28 =>
  L12x5 mk0 C s3 n3 s10 n10 i11 i28 h Q
  ) := join_eqn (blockQ 1 (seqQ (evalE mk0 C k12x11) (seqQ (evalE mk0 C k12x10) (roundQ mk0 C k12x5 7176 8 Q)))) (rep 3 (.g [] true (.sl s3 n3) :: (rep 6 (.g [] true (.sl s10 n10) :: (.g [] true (.int .i64 i11) :: (.g [] true (.int .i64 i12) :: (rep 17 []))))))) h (J12x15xaux mk0 C s3 n3 s10 n10 i11 i12 h Q)
theorem X12x5xe0 (M : Mk) (C : Cal) (s3 : SA) (n3 : Nat) (h : Heap) : Q12x5 M C (.exit 0) (S12xe0 s3 n3 h) = (
  some ((.sl s3 n3), h)
  ) := by kernel_rfl
end
end Go.Proofs.Ytepkdcgokedkdaa.H
