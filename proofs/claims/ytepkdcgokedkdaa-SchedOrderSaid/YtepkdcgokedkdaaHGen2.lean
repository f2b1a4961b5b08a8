/- Parts of the proof, printed. -/
import Derived.Test.YtepkdcgokedkdaaHGen
import Derived.KernelRfl
set_option linter.unusedVariables false
set_option maxRecDepth 100000
namespace Go.Proofs.Ytepkdcgokedkdaa.H
open Go Go.Proofs.Ytepkdcgokedkdaa.Abs Go.Proofs
section
variable {R : Type} (M : Mk) (C : Cal)
def k13x5 : AC := .ret
def k13x4 : AC := .seq (.mask 12) k13x5
def k13x3 : AC := .mask 1
def k13x2 : AC := .seq (.cond (.tmp 12)
   (.seq (.ops false [
      ⟨(some 2), .move (.c (.int .i64 0)), none, []⟩,
      ⟨(some 3), .move (.c (.int .i64 2)), none, []⟩]) k13x4)
   (.skip)) k13x3
def k13x13 : AC := .exit 0
def k13x12 : AC := .mask 57345
def k13x22 : AC := .ret
def k13x21 : AC := .seq (.mask 12) k13x22
def k13x20 : AC := .mask 57377
def k13x19 : AC := .seq (.cond (.tmp 22)
   (.seq (.ops false [
      ⟨(some 23), .move (.tmp 6), none, []⟩,
      ⟨(some 2), .move (.c (.int .i64 0)), none, []⟩,
      ⟨(some 3), .move (.tmp 23), none, []⟩]) k13x21)
   (.skip)) k13x20
def k13x18 : AC := .seq (.ops false [
    ⟨(some 21), .move (.tmp 6), none, []⟩,
    ⟨(some 22), .bin .other .neq (.tmp 21) (.c (.int .i64 0)), none, []⟩]) k13x19
def k13x26 : AC := .ret
def k13x25 : AC := .seq (.mask 12) k13x26
def k13x24 : AC := .mask 57345
def k13x23 : AC := .seq (.cond (.tmp 27)
   (.seq (.ops false [
      ⟨(some 2), .move (.c (.int .i64 0)), none, []⟩,
      ⟨(some 3), .move (.c (.int .i64 3)), none, []⟩]) k13x25)
   (.skip)) k13x24
def k13x17 : AC := .seq (.ops false [
    ⟨(some 24), .fieldAddr 0 (.tmp 5), none, []⟩,
    ⟨(some 25), .load (.cell (.int .i64)) (.tmp 24), none, []⟩,
    ⟨(some 26), .call 29 [(.tmp 25)] [(.cell .bool)] (.bool false), none, []⟩,
    ⟨(some 27), .un .not (.tmp 26), none, []⟩]) k13x23
def k13x16 : AC := .seq (.seq (.ops false [
    ⟨(some 19), .load (.agg [(.int .i64), (.int .i64), (.int .i64), (.int .i64), (.int .i64)]) (.tmp 5), none, []⟩,
    ⟨(some 20), .call 28 [(.tmp 19)] [(.cell (.int .i64))] (.int .i64 0), none, []⟩,
    ⟨(some 6), .move (.tmp 20), none, []⟩]) k13x18) k13x17
def k13x15 : AC := .mask 57345
def k13x14 : AC := .ops false [
    ⟨(some 28), .bin .other .add (.tmp 15) (.c (.int .i64 1)), none, []⟩,
    ⟨(some 15), .move (.tmp 28), none, []⟩]
def k13x11 : AC := .seq (.seq (.block 1 (.seq (.ops false [
     ⟨(some 17), .indexAddr 5 (.tmp 13) (.tmp 15), none, []⟩,
     ⟨(some 18), .load (.agg [(.int .i64), (.int .i64), (.int .i64), (.int .i64), (.int .i64)]) (.tmp 17), none, []⟩,
     ⟨(some 5), .allocL [(.int .i64 0), (.int .i64 0), (.int .i64 0), (.int .i64 0), (.int .i64 0)], none, []⟩,
     ⟨none, .store 5 (.tmp 5) (.tmp 18), none, []⟩]) k13x16)) k13x15) k13x14
def k13x10 : AC := .seq (.seq (.cond (.tmp 16)
   (.skip)
   (.seq (.mask 1) k13x13)) k13x12) k13x11
def k13x9 : AC := .seq (.ops false [
    ⟨(some 16), .bin .other .lss (.tmp 15) (.tmp 14), none, []⟩]) k13x10
def k13x8 : AC := .mask 1
def k13x7 : AC := .seq (.block 0 (.loop 57345 1 k13x9)) k13x8
def k13x35 : AC := .exit 2
def k13x34 : AC := .mask 3758096512
def k13x38 : AC := .ops false [
    ⟨(some 36), .load (.raw 20) (.tmp 7), none, []⟩,
    ⟨(some 37), .load (.agg [(.int .i64), (.int .i64), (.int .i64), (.int .i64), (.int .i64)]) (.tmp 9), none, []⟩,
    ⟨(some 38), .call 30 [(.tmp 36), (.tmp 37), (.c (.int .i64 0))] [(.raw 20), (.cell (.int .i64)), (.cell (.int .i64))] .opq, none, []⟩,
    ⟨(some 35), .move (.tmp 38), none, []⟩,
    ⟨(some 39), .extract (.tmp 35) 0, none, []⟩,
    ⟨(some 40), .extract (.tmp 35) 1, none, []⟩,
    ⟨(some 41), .extract (.tmp 35) 2, none, []⟩,
    ⟨none, .store 20 (.tmp 7) (.tmp 39), none, []⟩]
def k13x37 : AC := .mask 3758096512
def k13x36 : AC := .ops false [
    ⟨(some 42), .bin .other .add (.tmp 31) (.c (.int .i64 1)), none, []⟩,
    ⟨(some 31), .move (.tmp 42), none, []⟩]
def k13x33 : AC := .seq (.seq (.block 3 (.seq (.ops false [
     ⟨(some 33), .indexAddr 5 (.tmp 29) (.tmp 31), none, []⟩,
     ⟨(some 34), .load (.agg [(.int .i64), (.int .i64), (.int .i64), (.int .i64), (.int .i64)]) (.tmp 33), none, []⟩,
     ⟨(some 9), .allocL [(.int .i64 0), (.int .i64 0), (.int .i64 0), (.int .i64 0), (.int .i64 0)], none, []⟩,
     ⟨none, .store 5 (.tmp 9) (.tmp 34), none, []⟩]) k13x38)) k13x37) k13x36
def k13x32 : AC := .seq (.seq (.cond (.tmp 32)
   (.skip)
   (.seq (.mask 128) k13x35)) k13x34) k13x33
def k13x31 : AC := .seq (.ops false [
    ⟨(some 32), .bin .other .lss (.tmp 31) (.tmp 30), none, []⟩]) k13x32
def k13x30 : AC := .mask 128
def k13x29 : AC := .seq (.block 2 (.loop 3758096512 128 k13x31)) k13x30
def k13x40 : AC := .ret
def k13x39 : AC := .seq (.mask 12) k13x40
def k13x28 : AC := .seq (.ops false [
    ⟨(some 43), .fieldAddr 2 (.tmp 7), none, []⟩,
    ⟨(some 44), .load (.cell (.int .i64)) (.tmp 43), none, []⟩,
    ⟨(some 2), .move (.tmp 44), none, []⟩,
    ⟨(some 3), .move (.c (.int .i64 0)), none, []⟩]) k13x39
def k13x27 : AC := .seq (.seq (.ops false [
    ⟨(some 29), .move (.tmp 0), none, []⟩,
    ⟨(some 30), .lenSl (.tmp 29), none, []⟩,
    ⟨(some 31), .move (.c (.int .i64 0)), none, []⟩]) k13x29) k13x28
def k13x6 : AC := .seq (.ops false [
    ⟨(some 7), .allocL [(.int .i64 0), (.int .i64 0), (.int .i64 0), (.int .i64 0), (.int .i64 0), (.int .i64 0), (.int .i64 0), (.int .i64 0), (.int .i64 0), (.int .i64 0), (.int .i64 0), (.int .i64 0), (.int .i64 0), (.int .i64 0), (.int .i64 0), (.int .i64 0), (.int .i64 0), (.int .i64 0), (.int .i64 0), (.sl .nil 0)], none, []⟩]) k13x27
def k13x1 : AC := .seq (.seq (.ops false [
    ⟨(some 13), .move (.tmp 0), none, []⟩,
    ⟨(some 14), .lenSl (.tmp 13), none, []⟩,
    ⟨(some 15), .move (.c (.int .i64 0)), none, []⟩]) k13x7) k13x6
def k13x0 : AC := .seq (.seq (.ops false [
    ⟨(some 10), .move (.tmp 0), none, []⟩,
    ⟨(some 11), .lenSl (.tmp 10), none, []⟩,
    ⟨(some 12), .bin .other .gtr (.tmp 11) (.c (.int .i64 4096)), none, []⟩]) k13x2) k13x1
/-- provenance/timing.Cycles -/
def c13 : AFn := ⟨45, [.tmp 2, .tmp 3],
  .seq (.ops false [
    ⟨(some 2), .move (.c (.int .i64 0)), none, []⟩,
    ⟨(some 3), .move (.c (.int .i64 0)), none, []⟩]) k13x0⟩
def S13xr (i2 : Int) (i3 : Int) (h : Heap) : St := ⟨(.any :: .any :: (.g [] true (.int .i64 i2) :: (.g [] true (.int .i64 i3) :: (rep 41 [])))), h⟩
def S13xe0 (s0 : SA) (n0 : Nat) (h : Heap) : St := ⟨(.g [] true (.sl s0 n0) :: (rep 44 [])), h⟩
def S13xe2 (l7 : List AV) (h : Heap) : St := ⟨(rep 7 (.box l7 :: (rep 37 []))), h⟩
noncomputable def Q13x9 : Kont (AV × Heap) := (blockQ 0 (seqQ (evalE M C k13x8) (seqQ (evalE M C k13x6) (endQ [.tmp 2, .tmp 3]))))
noncomputable def L13x9 (s0 : SA) (n0 : Nat) (s13 : SA) (n13 : Nat) (i14 : Int) (i15 : Int) (h : Heap) (Q : Kont R) : Option R := loopE (evalE M C k13x9) 57345 1 ⟨(.g [] true (.sl s0 n0) :: (rep 12 (.g [] true (.sl s13 n13) :: (.g [] true (.int .i64 i14) :: (.g [] true (.int .i64 i15) :: (rep 29 [])))))), h⟩ Q
noncomputable def Q13x31 : Kont (AV × Heap) := (blockQ 2 (seqQ (evalE M C k13x30) (seqQ (evalE M C k13x28) (endQ [.tmp 2, .tmp 3]))))
noncomputable def L13x31 (l7 : List AV) (s29 : SA) (n29 : Nat) (i30 : Int) (i31 : Int) (h : Heap) (Q : Kont R) : Option R := loopE (evalE M C k13x31) 3758096512 128 ⟨(rep 7 (.box l7 :: (rep 21 (.g [] true (.sl s29 n29) :: (.g [] true (.int .i64 i30) :: (.g [] true (.int .i64 i31) :: (rep 13 []))))))), h⟩ Q
theorem r13 (s0 : SA) (n0 : Nat) (h : Heap) : runE M C c13 [(.sl s0 n0)] h = (
  letK ((decide ((4096 : Int) < ((n0 : Nat) : Int))) : Bool) fun b12 =>
  if b12 = true then
    (
    some (.tup [(.int .i64 0), (.int .i64 2)], h)
    )
  else
    (
    L13x9 M C s0 n0 s0 n0 ((n0 : Nat) : Int) 0 h (Q13x9 M C)
    )
  ) := by kernel_rfl
theorem cf13 : cFn Try.prog 13 = some c13 := by kernel_rfl
theorem e13 (s0 : SA) (n0 : Nat) (h : Heap) : E 13 [(.sl s0 n0)] h = (
  letK ((decide ((4096 : Int) < ((n0 : Nat) : Int))) : Bool) fun b12 =>
  if b12 = true then
    (
    some (.tup [(.int .i64 0), (.int .i64 2)], h)
    )
  else
    (
    L13x9 mk0 E s0 n0 s0 n0 ((n0 : Nat) : Int) 0 h (Q13x9 mk0 E)
    )
  ) := (EV_eq (P := Try.prog) (T := T0) rfl cf13 [(.sl s0 n0)] h).trans (r13 mk0 E s0 n0 h)
theorem L13x9xaux (s0 : SA) (n0 : Nat) (s13 : SA) (n13 : Nat) (i14 : Int) (i15 : Int) (h : Heap) (Q : Kont R) : (restrF 57345 ⟨(.g [] true (.sl s0 n0) :: (rep 12 (.g [] true (.sl s13 n13) :: (.g [] true (.int .i64 i14) :: (.g [] true (.int .i64 i15) :: (rep 29 [])))))), h⟩ fun σ => evalE M C k13x9 σ (roundQ M C k13x9 57345 1 Q)) = (
  letK ((decide ((i15 : Int) < i14)) : Bool) fun b16 =>
  if b16 = true then
    (
    chk (true = true → (0 : Int) ≤ i15 ∧ (i15 : Int) < ((n13 : Nat) : Int)) <|
    atP (adP s13) true fun a17 =>
    gCells (ldN h (Ad.add a17 (Int.toNat i15 * 5)) 5) true fun l18 =>
    gI .i64 (l18[0]?) true fun i18x0 =>
    gI .i64 (l18[1]?) true fun i18x1 =>
    gI .i64 (l18[2]?) true fun i18x2 =>
    gI .i64 (l18[3]?) true fun i18x3 =>
    gI .i64 (l18[4]?) true fun i18x4 =>
    (C 28 [(.agg [(.int .i64 i18x0), (.int .i64 i18x1), (.int .i64 i18x2), (.int .i64 i18x3), (.int .i64 i18x4)])] h).bind fun r20 =>
    gI .i64 (some r20.1) true fun i20 =>
    letK ((!decide ((i20 : Int) = 0)) : Bool) fun b22 =>
    if b22 = true then
      (
      Q .ret (S13xr 0 i20 r20.2)
      )
    else
      (
      (C 29 [(.int .i64 i18x0)] r20.2).bind fun r26 =>
      gB (some r26.1) true fun b26 =>
      if (!b26) = true then
        (
        Q .ret (S13xr 0 3 r26.2)
        )
      else
        (
        letK ((IntKind.wrap .i64 (i15 + 1)) : Int) fun i28 =>
        L13x9 M C s0 n0 s13 n13 i14 i28 r26.2 Q
        )
      )
    )
  else
    (
    Q (.exit 0) (S13xe0 s0 n0 h)
    )
  ) := by kernel_rfl
theorem L13x9xeq (s0 : SA) (n0 : Nat) (s13 : SA) (n13 : Nat) (i14 : Int) (i15 : Int) (h : Heap) (Q : Kont R) : L13x9 mk0 C s0 n0 s13 n13 i14 i15 h Q = (
  letK ((decide ((i15 : Int) < i14)) : Bool) fun b16 =>
  if b16 = true then
    (
    chk (true = true → (0 : Int) ≤ i15 ∧ (i15 : Int) < ((n13 : Nat) : Int)) <|
    atP (adP s13) true fun a17 =>
    gCells (ldN h (Ad.add a17 (Int.toNat i15 * 5)) 5) true fun l18 =>
    gI .i64 (l18[0]?) true fun i18x0 =>
    gI .i64 (l18[1]?) true fun i18x1 =>
    gI .i64 (l18[2]?) true fun i18x2 =>
    gI .i64 (l18[3]?) true fun i18x3 =>
    gI .i64 (l18[4]?) true fun i18x4 =>
    (C 28 [(.agg [(.int .i64 i18x0), (.int .i64 i18x1), (.int .i64 i18x2), (.int .i64 i18x3), (.int .i64 i18x4)])] h).bind fun r20 =>
    gI .i64 (some r20.1) true fun i20 =>
    letK ((!decide ((i20 : Int) = 0)) : Bool) fun b22 =>
    if b22 = true then
      (
      Q .ret (S13xr 0 i20 r20.2)
      )
    else
      (
      (C 29 [(.int .i64 i18x0)] r20.2).bind fun r26 =>
      gB (some r26.1) true fun b26 =>
      if (!b26) = true then
        (
        Q .ret (S13xr 0 3 r26.2)
        )
      else
        (
        letK ((IntKind.wrap .i64 (i15 + 1)) : Int) fun i28 =>
        L13x9 mk0 C s0 n0 s13 n13 i14 i28 r26.2 Q
        )
      )
    )
  else
    (
    Q (.exit 0) (S13xe0 s0 n0 h)
    )
  ) := loop_eqn C k13x9 57345 1 (.g [] true (.sl s0 n0) :: (rep 12 (.g [] true (.sl s13 n13) :: (.g [] true (.int .i64 i14) :: (.g [] true (.int .i64 i15) :: (rep 29 [])))))) h Q (by kernel_rfl) (L13x9xaux mk0 C s0 n0 s13 n13 i14 i15 h Q)
theorem X13x9xr (i2 : Int) (i3 : Int) (h : Heap) : Q13x9 M C .ret (S13xr i2 i3 h) = (
  some (.tup [(.int .i64 i2), (.int .i64 i3)], h)
  ) := by kernel_rfl
theorem X13x9xe0 (s0 : SA) (n0 : Nat) (h : Heap) : Q13x9 M C (.exit 0) (S13xe0 s0 n0 h) = (
  L13x31 M C [(.int .i64 0), (.int .i64 0), (.int .i64 0), (.int .i64 0), (.int .i64 0), (.int .i64 0), (.int .i64 0), (.int .i64 0), (.int .i64 0), (.int .i64 0), (.int .i64 0), (.int .i64 0), (.int .i64 0), (.int .i64 0), (.int .i64 0), (.int .i64 0), (.int .i64 0), (.int .i64 0), (.int .i64 0), (.sl .nil 0)] s0 n0 ((n0 : Nat) : Int) 0 h (Q13x31 M C)
  ) := by kernel_rfl
theorem L13x31xaux (l7 : List AV) (s29 : SA) (n29 : Nat) (i30 : Int) (i31 : Int) (h : Heap) (Q : Kont R) : (restrF 3758096512 ⟨(rep 7 (.box l7 :: (rep 21 (.g [] true (.sl s29 n29) :: (.g [] true (.int .i64 i30) :: (.g [] true (.int .i64 i31) :: (rep 13 []))))))), h⟩ fun σ => evalE M C k13x31 σ (roundQ M C k13x31 3758096512 128 Q)) = (
  letK ((decide ((i31 : Int) < i30)) : Bool) fun b32 =>
  if b32 = true then
    (
    chk (true = true → (0 : Int) ≤ i31 ∧ (i31 : Int) < ((n29 : Nat) : Int)) <|
    atP (adP s29) true fun a33 =>
    gCells (ldN h (Ad.add a33 (Int.toNat i31 * 5)) 5) true fun l34 =>
    gI .i64 (l34[0]?) true fun i34x0 =>
    gI .i64 (l34[1]?) true fun i34x1 =>
    gI .i64 (l34[2]?) true fun i34x2 =>
    gI .i64 (l34[3]?) true fun i34x3 =>
    gI .i64 (l34[4]?) true fun i34x4 =>
    chk (true = true → 0 + 20 ≤ List.length l7) <|
    (C 30 [(.agg ((List.drop 0 l7).take 20)), (.agg [(.int .i64 i34x0), (.int .i64 i34x1), (.int .i64 i34x2), (.int .i64 i34x3), (.int .i64 i34x4)]), (.int .i64 0)] h).bind fun r38 =>
    gT 3 r38.1 true fun u38 =>
    gA (List.getD u38 0 .opq) true fun l38x0 =>
    chk (true = true → l38x0.length = 20) <|
    gI .i64 (some (List.getD u38 1 .opq)) true fun i38x1 =>
    gI .i64 (some (List.getD u38 2 .opq)) true fun i38x2 =>
    chk (List.length l38x0 = 20 ∧ flatL l38x0 = true ∧ 0 + 20 ≤ List.length l7) <|
    letK (splice 0 l38x0 l7) fun lx =>
    letK ((IntKind.wrap .i64 (i31 + 1)) : Int) fun i42 =>
    L13x31 M C lx s29 n29 i30 i42 r38.2 Q
    )
  else
    (
    Q (.exit 2) (S13xe2 l7 h)
    )
  ) := by kernel_rfl
theorem L13x31xeq (l7 : List AV) (s29 : SA) (n29 : Nat) (i30 : Int) (i31 : Int) (h : Heap) (Q : Kont R) : L13x31 mk0 C l7 s29 n29 i30 i31 h Q = (
  letK ((decide ((i31 : Int) < i30)) : Bool) fun b32 =>
  if b32 = true then
    (
    chk (true = true → (0 : Int) ≤ i31 ∧ (i31 : Int) < ((n29 : Nat) : Int)) <|
    atP (adP s29) true fun a33 =>
    gCells (ldN h (Ad.add a33 (Int.toNat i31 * 5)) 5) true fun l34 =>
    gI .i64 (l34[0]?) true fun i34x0 =>
    gI .i64 (l34[1]?) true fun i34x1 =>
    gI .i64 (l34[2]?) true fun i34x2 =>
    gI .i64 (l34[3]?) true fun i34x3 =>
    gI .i64 (l34[4]?) true fun i34x4 =>
    chk (true = true → 0 + 20 ≤ List.length l7) <|
    (C 30 [(.agg ((List.drop 0 l7).take 20)), (.agg [(.int .i64 i34x0), (.int .i64 i34x1), (.int .i64 i34x2), (.int .i64 i34x3), (.int .i64 i34x4)]), (.int .i64 0)] h).bind fun r38 =>
    gT 3 r38.1 true fun u38 =>
    gA (List.getD u38 0 .opq) true fun l38x0 =>
    chk (true = true → l38x0.length = 20) <|
    gI .i64 (some (List.getD u38 1 .opq)) true fun i38x1 =>
    gI .i64 (some (List.getD u38 2 .opq)) true fun i38x2 =>
    chk (List.length l38x0 = 20 ∧ flatL l38x0 = true ∧ 0 + 20 ≤ List.length l7) <|
    letK (splice 0 l38x0 l7) fun lx =>
    letK ((IntKind.wrap .i64 (i31 + 1)) : Int) fun i42 =>
    L13x31 mk0 C lx s29 n29 i30 i42 r38.2 Q
    )
  else
    (
    Q (.exit 2) (S13xe2 l7 h)
    )
  ) := loop_eqn C k13x31 3758096512 128 (rep 7 (.box l7 :: (rep 21 (.g [] true (.sl s29 n29) :: (.g [] true (.int .i64 i30) :: (.g [] true (.int .i64 i31) :: (rep 13 []))))))) h Q (by kernel_rfl) (L13x31xaux mk0 C l7 s29 n29 i30 i31 h Q)
theorem X13x31xe2 (l7 : List AV) (h : Heap) : Q13x31 M C (.exit 2) (S13xe2 l7 h) = (
  gI .i64 (l7[2]?) true fun i44 =>
  some (.tup [(.int .i64 i44), (.int .i64 0)], h)
  ) := by kernel_rfl
def k11x3 : AC := .ret
def k11x2 : AC := .seq (.mask 1) k11x3
def k11x1 : AC := .seq (.ops true [
    ⟨(some 10), .move (.tmp 2), none, []⟩,
    ⟨(some 11), .bin .other .eql (.tmp 10) (.c (.int .i64 0)), none, []⟩,
    ⟨(some 12), .move (.tmp 11), none, []⟩,
    ⟨(some 13), .move (.tmp 1), (some (12, true)), []⟩,
    ⟨(some 14), .bin .other .eql (.tmp 13) (.c (.int .i64 4)), (some (12, true)), []⟩,
    ⟨(some 15), .pick (.tmp 12) (.tmp 14) (.c (.bool false)), none, []⟩,
    ⟨(some 0), .move (.tmp 15), none, []⟩]) k11x2
def k11x0 : AC := .seq (.ops false [
    ⟨(some 4), .build [(.int .i64 0), (.int .i64 0), (.int .i64 0), (.int .i64 0), (.int .i64 0)] [(0, 1, (.c (.int .i64 3))), (1, 1, (.c (.int .i64 1))), (2, 1, (.c (.int .i64 2))), (3, 1, (.c (.int .i64 3)))], none, []⟩,
    ⟨(some 5), .build [(.int .i64 0), (.int .i64 0), (.int .i64 0), (.int .i64 0), (.int .i64 0)] [(0, 1, (.c (.int .i64 1))), (1, 1, (.c (.int .i64 4))), (2, 1, (.c (.int .i64 1))), (3, 1, (.c (.int .i64 1)))], none, []⟩,
    ⟨(some 6), .buildSl (List.replicate 10 (.int .i64 0)) 5 [(0, (.tmp 4)), (5, (.tmp 5))], none, []⟩,
    ⟨(some 7), .call 13 [(.tmp 6)] [(.cell (.int .i64)), (.cell (.int .i64))] .opq, none, []⟩,
    ⟨(some 3), .move (.tmp 7), none, []⟩,
    ⟨(some 8), .extract (.tmp 3) 0, none, []⟩,
    ⟨(some 9), .extract (.tmp 3) 1, none, []⟩,
    ⟨(some 1), .move (.tmp 8), none, []⟩,
    ⟨(some 2), .move (.tmp 9), none, []⟩]) k11x1
/-- provenance/provenancekeep4.timingFact -/
def c11 : AFn := ⟨16, [.tmp 0],
  .seq (.ops false [
    ⟨(some 0), .move (.c (.bool false)), none, []⟩]) k11x0⟩
theorem r11 (h : Heap) : runE M C c11 [] h = (
  newK h (.cells [(.int .i64 3), (.int .i64 1), (.int .i64 2), (.int .i64 3), (.int .i64 0), (.int .i64 1), (.int .i64 4), (.int .i64 1), (.int .i64 1), (.int .i64 0)] (.grow 5) 0) fun h_2 =>
  (C 13 [(.sl (.pos ⟨List.length h, 0, 0⟩) 2)] h_2).bind fun r7 =>
  gT 2 r7.1 true fun u7 =>
  gI .i64 (some (List.getD u7 0 .opq)) true fun i7x0 =>
  gI .i64 (some (List.getD u7 1 .opq)) true fun i7x1 =>
  letK ((decide ((i7x1 : Int) = 0)) : Bool) fun b11 =>
  letK ((decide ((i7x0 : Int) = 4)) : Bool) fun b14 =>
  letK ((if b11 = true then b14 else false) : Bool) fun b15 =>
  some ((.bool b15), r7.2)
  ) := by kernel_rfl
theorem cf11 : cFn Try.prog 11 = some c11 := by kernel_rfl
theorem e11 (h : Heap) : E 11 [] h = (
  newK h (.cells [(.int .i64 3), (.int .i64 1), (.int .i64 2), (.int .i64 3), (.int .i64 0), (.int .i64 1), (.int .i64 4), (.int .i64 1), (.int .i64 1), (.int .i64 0)] (.grow 5) 0) fun h_2 =>
  (E 13 [(.sl (.pos ⟨List.length h, 0, 0⟩) 2)] h_2).bind fun r7 =>
  gT 2 r7.1 true fun u7 =>
  gI .i64 (some (List.getD u7 0 .opq)) true fun i7x0 =>
  gI .i64 (some (List.getD u7 1 .opq)) true fun i7x1 =>
  letK ((decide ((i7x1 : Int) = 0)) : Bool) fun b11 =>
  letK ((decide ((i7x0 : Int) = 4)) : Bool) fun b14 =>
  letK ((if b11 = true then b14 else false) : Bool) fun b15 =>
  some ((.bool b15), r7.2)
  ) := (EV_eq (P := Try.prog) (T := T0) rfl cf11 [] h).trans (r11 mk0 E h)
def k12x9 : AC := .exit 0
def k12x8 : AC := .mask 7176
def k12x14 : AC := .join 7176
def k12x13 : AC := .seq (.cond (.tmp 23)
   (.ops false [
      ⟨(some 24), .move (.tmp 3), none, []⟩,
      ⟨(some 25), .load (.agg [(.int .i64), (.int .i64), (.int .i64), (.int .i64), (.int .i64)]) (.tmp 5), none, []⟩,
      ⟨(some 26), .buildSl [(.int .i64 0), (.int .i64 0), (.int .i64 0), (.int .i64 0), (.int .i64 0)] 5 [(0, (.tmp 25))], none, []⟩,
      ⟨(some 27), .append [(.int .i64 0), (.int .i64 0), (.int .i64 0), (.int .i64 0), (.int .i64 0)] 5 40 (.tmp 24) (.tmp 26), none, []⟩,
      ⟨(some 3), .move (.tmp 27), none, []⟩])
   (.skip)) k12x14
def k12x12 : AC := .seq (.ops true [
    ⟨(some 16), .load (.agg [(.int .i64), (.int .i64), (.int .i64), (.int .i64), (.int .i64)]) (.tmp 5), none, []⟩,
    ⟨(some 17), .call 28 [(.tmp 16)] [(.cell (.int .i64))] (.int .i64 0), none, []⟩,
    ⟨(some 18), .bin .other .eql (.tmp 17) (.c (.int .i64 0)), none, []⟩,
    ⟨(some 19), .move (.tmp 18), none, []⟩,
    ⟨(some 20), .fieldAddr 0 (.tmp 5), (some (19, true)), []⟩,
    ⟨(some 21), .load (.cell (.int .i64)) (.tmp 20), (some (19, true)), []⟩,
    ⟨(some 22), .call 29 [(.tmp 21)] [(.cell .bool)] (.bool false), (some (19, true)), []⟩,
    ⟨(some 23), .pick (.tmp 19) (.tmp 22) (.c (.bool false)), none, []⟩]) k12x13
def k12x11 : AC := .mask 7176
def k12x10 : AC := .ops false [
    ⟨(some 28), .bin .other .add (.tmp 12) (.c (.int .i64 1)), none, []⟩,
    ⟨(some 12), .move (.tmp 28), none, []⟩]
def k12x7 : AC := .seq (.seq (.block 1 (.seq (.ops false [
     ⟨(some 14), .indexAddr 5 (.tmp 10) (.tmp 12), none, []⟩,
     ⟨(some 15), .load (.agg [(.int .i64), (.int .i64), (.int .i64), (.int .i64), (.int .i64)]) (.tmp 14), none, []⟩,
     ⟨(some 5), .allocL [(.int .i64 0), (.int .i64 0), (.int .i64 0), (.int .i64 0), (.int .i64 0)], none, []⟩,
     ⟨none, .store 5 (.tmp 5) (.tmp 15), none, []⟩]) k12x12)) k12x11) k12x10
def k12x6 : AC := .seq (.seq (.cond (.tmp 13)
   (.skip)
   (.seq (.mask 8) k12x9)) k12x8) k12x7
def k12x5 : AC := .seq (.ops false [
    ⟨(some 13), .bin .other .lss (.tmp 12) (.tmp 11), none, []⟩]) k12x6
def k12x4 : AC := .mask 8
def k12x3 : AC := .seq (.block 0 (.loop 7176 8 k12x5)) k12x4
def k12x17 : AC := .ret
def k12x16 : AC := .seq (.mask 4) k12x17
def k12x2 : AC := .seq (.ops false [
    ⟨(some 29), .move (.tmp 3), none, []⟩,
    ⟨(some 2), .move (.tmp 29), none, []⟩]) k12x16
def k12x1 : AC := .seq (.seq (.ops false [
    ⟨(some 6), .move (.tmp 0), none, []⟩,
    ⟨(some 7), .move (.tmp 0), none, []⟩,
    ⟨(some 8), .lenSl (.tmp 7), none, []⟩,
    ⟨(some 9), .mm false [(.tmp 8), (.c (.int .i64 60))], none, []⟩,
    ⟨(some 10), .slice 5 (.tmp 6) none (some (.tmp 9)), none, []⟩,
    ⟨(some 11), .lenSl (.tmp 10), none, []⟩,
    ⟨(some 12), .move (.c (.int .i64 0)), none, []⟩]) k12x3) k12x2
def k12x0 : AC := .seq (.ops false [
    ⟨(some 3), .move (.c (.sl .nil 0)), none, []⟩]) k12x1
/-- provenance/provenancekeep4.straight -/
def c12 : AFn := ⟨30, [.tmp 2],
  .seq (.ops false [
    ⟨(some 2), .move (.c (.sl .nil 0)), none, []⟩]) k12x0⟩
def S12xe0 (s3 : SA) (n3 : Nat) (h : Heap) : St := ⟨(rep 3 (.g [] true (.sl s3 n3) :: (rep 26 []))), h⟩
noncomputable def Q12x5 : Kont (AV × Heap) := (blockQ 0 (seqQ (evalE M C k12x4) (seqQ (evalE M C k12x2) (endQ [.tmp 2]))))
noncomputable def L12x5 (s3 : SA) (n3 : Nat) (s10 : SA) (n10 : Nat) (i11 : Int) (i12 : Int) (h : Heap) (Q : Kont R) : Option R := loopE (evalE M C k12x5) 7176 8 ⟨(rep 3 (.g [] true (.sl s3 n3) :: (rep 6 (.g [] true (.sl s10 n10) :: (.g [] true (.int .i64 i11) :: (.g [] true (.int .i64 i12) :: (rep 17 []))))))), h⟩ Q
noncomputable def J12x15 (s3 : SA) (n3 : Nat) (s10 : SA) (n10 : Nat) (i11 : Int) (i12 : Int) (h : Heap) (Q : Kont R) : Option R := M R (blockQ 1 (seqQ (evalE M C k12x11) (seqQ (evalE M C k12x10) (roundQ M C k12x5 7176 8 Q)))) (rep 3 (.g [] true (.sl s3 n3) :: (rep 6 (.g [] true (.sl s10 n10) :: (.g [] true (.int .i64 i11) :: (.g [] true (.int .i64 i12) :: (rep 17 []))))))) h
theorem r12 (s0 : SA) (n0 : Nat) (h : Heap) : runE M C c12 [(.sl s0 n0)] h = (
  letK ((foldMM false ((n0 : Nat) : Int) [60]) : Int) fun i9 =>
  chkC (true = true → (0 : Int) ≤ i9 ∧ hiOk h s0 n0 5 i9) <|
  L12x5 M C .nil 0 s0 (Int.toNat i9) (((Int.toNat i9) : Nat) : Int) 0 h (Q12x5 M C)
  ) := by kernel_rfl
theorem cf12 : cFn Try.prog 12 = some c12 := by kernel_rfl
theorem e12 (s0 : SA) (n0 : Nat) (h : Heap) : E 12 [(.sl s0 n0)] h = (
  letK ((foldMM false ((n0 : Nat) : Int) [60]) : Int) fun i9 =>
  chkC (true = true → (0 : Int) ≤ i9 ∧ hiOk h s0 n0 5 i9) <|
  L12x5 mk0 E .nil 0 s0 (Int.toNat i9) (((Int.toNat i9) : Nat) : Int) 0 h (Q12x5 mk0 E)
  ) := (EV_eq (P := Try.prog) (T := T0) rfl cf12 [(.sl s0 n0)] h).trans (r12 mk0 E s0 n0 h)
theorem L12x5xaux (s3 : SA) (n3 : Nat) (s10 : SA) (n10 : Nat) (i11 : Int) (i12 : Int) (h : Heap) (Q : Kont R) : (restrF 7176 ⟨(rep 3 (.g [] true (.sl s3 n3) :: (rep 6 (.g [] true (.sl s10 n10) :: (.g [] true (.int .i64 i11) :: (.g [] true (.int .i64 i12) :: (rep 17 []))))))), h⟩ fun σ => evalE M C k12x5 σ (roundQ M C k12x5 7176 8 Q)) = (
  letK ((decide ((i12 : Int) < i11)) : Bool) fun b13 =>
  if b13 = true then
    (
    chk (true = true → (0 : Int) ≤ i12 ∧ (i12 : Int) < ((n10 : Nat) : Int)) <|
    atP (adP s10) true fun a14 =>
    gCells (ldN h (Ad.add a14 (Int.toNat i12 * 5)) 5) true fun l15 =>
    gI .i64 (l15[0]?) true fun i15x0 =>
    gI .i64 (l15[1]?) true fun i15x1 =>
    gI .i64 (l15[2]?) true fun i15x2 =>
    gI .i64 (l15[3]?) true fun i15x3 =>
    gI .i64 (l15[4]?) true fun i15x4 =>
    (C 28 [(.agg [(.int .i64 i15x0), (.int .i64 i15x1), (.int .i64 i15x2), (.int .i64 i15x3), (.int .i64 i15x4)])] h).bind fun r17 =>
    gI .i64 (some r17.1) true fun i17 =>
    letK ((decide ((i17 : Int) = 0)) : Bool) fun b18 =>
    gI .i64 (some (.int .i64 i15x0)) b18 fun i21 =>
    (callO b18 (C 29 [(.int .i64 i21)] r17.2) (.bool false) r17.2).bind fun r22 =>
    gB (some r22.1) b18 fun b22 =>
    letK ((if b18 = true then b22 else false) : Bool) fun b23 =>
    if b23 = true then
      (
      newK r22.2 (.cells [(.int .i64 i15x0), (.int .i64 i15x1), (.int .i64 i15x2), (.int .i64 i15x3), (.int .i64 i15x4)] (.grow 5) 0) fun h_2 =>
      (ldSl h_2 (.pos ⟨List.length r22.2, 0, 0⟩) (1 * 5)).bind fun y27 =>
      (apnd h_2 (.sl s3 n3) 5 40 y27 1).bind fun r27 =>
      gL (some r27.1) true fun s27 n27 =>
      J12x15 M C s27 n27 s10 n10 i11 i12 r27.2 Q
      )
    else
      (
      J12x15 M C s3 n3 s10 n10 i11 i12 r22.2 Q
      )
    )
  else
    (
    Q (.exit 0) (S12xe0 s3 n3 h)
    )
  ) := by kernel_rfl
theorem L12x5xeq (s3 : SA) (n3 : Nat) (s10 : SA) (n10 : Nat) (i11 : Int) (i12 : Int) (h : Heap) (Q : Kont R) : L12x5 mk0 C s3 n3 s10 n10 i11 i12 h Q = (
  letK ((decide ((i12 : Int) < i11)) : Bool) fun b13 =>
  if b13 = true then
    (
    chk (true = true → (0 : Int) ≤ i12 ∧ (i12 : Int) < ((n10 : Nat) : Int)) <|
    atP (adP s10) true fun a14 =>
    gCells (ldN h (Ad.add a14 (Int.toNat i12 * 5)) 5) true fun l15 =>
    gI .i64 (l15[0]?) true fun i15x0 =>
    gI .i64 (l15[1]?) true fun i15x1 =>
    gI .i64 (l15[2]?) true fun i15x2 =>
    gI .i64 (l15[3]?) true fun i15x3 =>
    gI .i64 (l15[4]?) true fun i15x4 =>
    (C 28 [(.agg [(.int .i64 i15x0), (.int .i64 i15x1), (.int .i64 i15x2), (.int .i64 i15x3), (.int .i64 i15x4)])] h).bind fun r17 =>
    gI .i64 (some r17.1) true fun i17 =>
    letK ((decide ((i17 : Int) = 0)) : Bool) fun b18 =>
    gI .i64 (some (.int .i64 i15x0)) b18 fun i21 =>
    (callO b18 (C 29 [(.int .i64 i21)] r17.2) (.bool false) r17.2).bind fun r22 =>
    gB (some r22.1) b18 fun b22 =>
    letK ((if b18 = true then b22 else false) : Bool) fun b23 =>
    if b23 = true then
      (
      newK r22.2 (.cells [(.int .i64 i15x0), (.int .i64 i15x1), (.int .i64 i15x2), (.int .i64 i15x3), (.int .i64 i15x4)] (.grow 5) 0) fun h_2 =>
      (ldSl h_2 (.pos ⟨List.length r22.2, 0, 0⟩) (1 * 5)).bind fun y27 =>
      (apnd h_2 (.sl s3 n3) 5 40 y27 1).bind fun r27 =>
      gL (some r27.1) true fun s27 n27 =>
      J12x15 mk0 C s27 n27 s10 n10 i11 i12 r27.2 Q
      )
    else
      (
      J12x15 mk0 C s3 n3 s10 n10 i11 i12 r22.2 Q
      )
    )
  else
    (
    Q (.exit 0) (S12xe0 s3 n3 h)
    )
  ) := loop_eqn C k12x5 7176 8 (rep 3 (.g [] true (.sl s3 n3) :: (rep 6 (.g [] true (.sl s10 n10) :: (.g [] true (.int .i64 i11) :: (.g [] true (.int .i64 i12) :: (rep 17 []))))))) h Q (by kernel_rfl) (L12x5xaux mk0 C s3 n3 s10 n10 i11 i12 h Q)
theorem J12x15xaux (s3 : SA) (n3 : Nat) (s10 : SA) (n10 : Nat) (i11 : Int) (i12 : Int) (h : Heap) (Q : Kont R) : (forceK tk (rep 3 (.g [] true (.sl s3 n3) :: (rep 6 (.g [] true (.sl s10 n10) :: (.g [] true (.int .i64 i11) :: (.g [] true (.int .i64 i12) :: (rep 17 []))))))) fun e => (blockQ 1 (seqQ (evalE M C k12x11) (seqQ (evalE M C k12x10) (roundQ M C k12x5 7176 8 Q)))) .normal ⟨e, h⟩) = (
  letK ((IntKind.wrap .i64 (i12 + 1)) : Int) fun i28 =>
  L12x5 M C s3 n3 s10 n10 i11 i28 h Q
  ) := by kernel_rfl
theorem J12x15xeq (s3 : SA) (n3 : Nat) (s10 : SA) (n10 : Nat) (i11 : Int) (i12 : Int) (h : Heap) (Q : Kont R) : J12x15 mk0 C s3 n3 s10 n10 i11 i12 h Q = (
  letK ((IntKind.wrap .i64 (i12 + 1)) : Int) fun i28 =>
  L12x5 mk0 C s3 n3 s10 n10 i11 i28 h Q
  ) := join_eqn (blockQ 1 (seqQ (evalE mk0 C k12x11) (seqQ (evalE mk0 C k12x10) (roundQ mk0 C k12x5 7176 8 Q)))) (rep 3 (.g [] true (.sl s3 n3) :: (rep 6 (.g [] true (.sl s10 n10) :: (.g [] true (.int .i64 i11) :: (.g [] true (.int .i64 i12) :: (rep 17 []))))))) h (J12x15xaux mk0 C s3 n3 s10 n10 i11 i12 h Q)
theorem X12x5xe0 (s3 : SA) (n3 : Nat) (h : Heap) : Q12x5 M C (.exit 0) (S12xe0 s3 n3 h) = (
  some ((.sl s3 n3), h)
  ) := by kernel_rfl
def k3x5 : AC := .ret
def k3x4 : AC := .seq (.mask 16) k3x5
def k3x3 : AC := .mask 3
def k3x2 : AC := .seq (.cond (.tmp 10)
   (.seq (.ops false [
      ⟨(some 4), .move (.c (.bool false)), none, []⟩]) k3x4)
   (.skip)) k3x3
def k3x10 : AC := .ret
def k3x9 : AC := .seq (.mask 16) k3x10
def k3x8 : AC := .seq (.ops true [
    ⟨(some 29), .move (.tmp 6), none, []⟩,
    ⟨(some 30), .bin .other .eql (.tmp 29) (.c (.int .i64 0)), none, []⟩,
    ⟨(some 31), .move (.tmp 30), none, []⟩,
    ⟨(some 32), .move (.tmp 8), (some (31, true)), []⟩,
    ⟨(some 33), .bin .other .eql (.tmp 32) (.c (.int .i64 0)), (some (31, true)), []⟩,
    ⟨(some 34), .pick (.tmp 31) (.tmp 33) (.c (.bool false)), none, []⟩,
    ⟨(some 35), .move (.tmp 34), none, []⟩,
    ⟨(some 36), .move (.tmp 7), (some (35, true)), []⟩,
    ⟨(some 37), .move (.tmp 5), (some (35, true)), []⟩,
    ⟨(some 38), .bin .other .leq (.tmp 36) (.tmp 37), (some (35, true)), []⟩,
    ⟨(some 39), .pick (.tmp 35) (.tmp 38) (.c (.bool false)), none, []⟩,
    ⟨(some 40), .move (.tmp 39), none, []⟩,
    ⟨(some 41), .move (.tmp 5), (some (40, true)), []⟩,
    ⟨(some 42), .move (.tmp 0), (some (40, true)), []⟩,
    ⟨(some 43), .lenSl (.tmp 42), (some (40, true)), []⟩,
    ⟨(some 44), .bin .other .geq (.tmp 41) (.tmp 43), (some (40, true)), []⟩,
    ⟨(some 45), .pick (.tmp 40) (.tmp 44) (.c (.bool false)), none, []⟩,
    ⟨(some 4), .move (.tmp 45), none, []⟩]) k3x9
def k3x7 : AC := .seq (.ops false [
    ⟨(some 19), .move (.tmp 0), none, []⟩,
    ⟨(some 20), .move (.tmp 1), none, []⟩,
    ⟨(some 21), .move (.tmp 0), none, []⟩,
    ⟨(some 22), .lenSl (.tmp 21), none, []⟩,
    ⟨(some 23), .bin .other .add (.tmp 22) (.c (.int .i64 1)), none, []⟩,
    ⟨(some 24), .call 14 [(.tmp 20), (.tmp 23)] [(.cell (.int .i64))] (.int .i64 0), none, []⟩,
    ⟨(some 25), .slice 5 (.tmp 19) none (some (.tmp 24)), none, []⟩,
    ⟨(some 26), .call 13 [(.tmp 25)] [(.cell (.int .i64)), (.cell (.int .i64))] .opq, none, []⟩,
    ⟨(some 18), .move (.tmp 26), none, []⟩,
    ⟨(some 27), .extract (.tmp 18) 0, none, []⟩,
    ⟨(some 28), .extract (.tmp 18) 1, none, []⟩,
    ⟨(some 7), .move (.tmp 27), none, []⟩,
    ⟨(some 8), .move (.tmp 28), none, []⟩]) k3x8
def k3x6 : AC := .seq (.ops false [
    ⟨(some 14), .move (.tmp 0), none, []⟩,
    ⟨(some 15), .call 13 [(.tmp 14)] [(.cell (.int .i64)), (.cell (.int .i64))] .opq, none, []⟩,
    ⟨(some 13), .move (.tmp 15), none, []⟩,
    ⟨(some 16), .extract (.tmp 13) 0, none, []⟩,
    ⟨(some 17), .extract (.tmp 13) 1, none, []⟩,
    ⟨(some 5), .move (.tmp 16), none, []⟩,
    ⟨(some 6), .move (.tmp 17), none, []⟩]) k3x7
def k3x1 : AC := .seq (.ops false [
    ⟨(some 11), .move (.tmp 0), none, []⟩,
    ⟨(some 12), .call 12 [(.tmp 11)] [(.cell .sl)] (.sl .nil 0), none, []⟩,
    ⟨(some 0), .move (.tmp 12), none, []⟩]) k3x6
def k3x0 : AC := .seq (.seq (.ops false [
    ⟨(some 9), .call 11 [] [(.cell .bool)] (.bool false), none, []⟩,
    ⟨(some 10), .un .not (.tmp 9), none, []⟩]) k3x2) k3x1
/-- provenance/provenancekeep4.TimingGrows -/
def c3 : AFn := ⟨46, [.tmp 4],
  .seq (.ops false [
    ⟨(some 4), .move (.c (.bool false)), none, []⟩]) k3x0⟩
theorem r3 (s0 : SA) (n0 : Nat) (i1 : Int) (h : Heap) : runE M C c3 [(.sl s0 n0), (.int .i64 i1)] h = (
  (C 11 [] h).bind fun r9 =>
  gB (some r9.1) true fun b9 =>
  if (!b9) = true then
    (
    some ((.bool false), r9.2)
    )
  else
    (
    (C 12 [(.sl s0 n0)] r9.2).bind fun r12 =>
    gL (some r12.1) true fun s12 n12 =>
    (C 13 [(.sl s12 n12)] r12.2).bind fun r15 =>
    gT 2 r15.1 true fun u15 =>
    gI .i64 (some (List.getD u15 0 .opq)) true fun i15x0 =>
    gI .i64 (some (List.getD u15 1 .opq)) true fun i15x1 =>
    letK ((IntKind.wrap .i64 (((n12 : Nat) : Int) + 1)) : Int) fun i23 =>
    (C 14 [(.int .i64 i1), (.int .i64 i23)] r15.2).bind fun r24 =>
    gI .i64 (some r24.1) true fun i24 =>
    chkC (true = true → (0 : Int) ≤ i24 ∧ hiOk r24.2 s12 n12 5 i24) <|
    letK ((Int.toNat i24) : Nat) fun n25 =>
    (C 13 [(.sl s12 n25)] r24.2).bind fun r26 =>
    gT 2 r26.1 true fun u26 =>
    gI .i64 (some (List.getD u26 0 .opq)) true fun i26x0 =>
    gI .i64 (some (List.getD u26 1 .opq)) true fun i26x1 =>
    letK ((decide ((i15x1 : Int) = 0)) : Bool) fun b30 =>
    letK ((decide ((i26x1 : Int) = 0)) : Bool) fun b33 =>
    letK ((if b30 = true then b33 else false) : Bool) fun b34 =>
    letK ((decide ((i26x0 : Int) ≤ i15x0)) : Bool) fun b38 =>
    letK ((if b34 = true then b38 else false) : Bool) fun b39 =>
    letK ((decide ((((n12 : Nat) : Int) : Int) ≤ i15x0)) : Bool) fun b44 =>
    letK ((if b39 = true then b44 else false) : Bool) fun b45 =>
    some ((.bool b45), r26.2)
    )
  ) := by kernel_rfl
theorem cf3 : cFn Try.prog 3 = some c3 := by kernel_rfl
theorem e3 (s0 : SA) (n0 : Nat) (i1 : Int) (h : Heap) : E 3 [(.sl s0 n0), (.int .i64 i1)] h = (
  (E 11 [] h).bind fun r9 =>
  gB (some r9.1) true fun b9 =>
  if (!b9) = true then
    (
    some ((.bool false), r9.2)
    )
  else
    (
    (E 12 [(.sl s0 n0)] r9.2).bind fun r12 =>
    gL (some r12.1) true fun s12 n12 =>
    (E 13 [(.sl s12 n12)] r12.2).bind fun r15 =>
    gT 2 r15.1 true fun u15 =>
    gI .i64 (some (List.getD u15 0 .opq)) true fun i15x0 =>
    gI .i64 (some (List.getD u15 1 .opq)) true fun i15x1 =>
    letK ((IntKind.wrap .i64 (((n12 : Nat) : Int) + 1)) : Int) fun i23 =>
    (E 14 [(.int .i64 i1), (.int .i64 i23)] r15.2).bind fun r24 =>
    gI .i64 (some r24.1) true fun i24 =>
    chkC (true = true → (0 : Int) ≤ i24 ∧ hiOk r24.2 s12 n12 5 i24) <|
    letK ((Int.toNat i24) : Nat) fun n25 =>
    (E 13 [(.sl s12 n25)] r24.2).bind fun r26 =>
    gT 2 r26.1 true fun u26 =>
    gI .i64 (some (List.getD u26 0 .opq)) true fun i26x0 =>
    gI .i64 (some (List.getD u26 1 .opq)) true fun i26x1 =>
    letK ((decide ((i15x1 : Int) = 0)) : Bool) fun b30 =>
    letK ((decide ((i26x1 : Int) = 0)) : Bool) fun b33 =>
    letK ((if b30 = true then b33 else false) : Bool) fun b34 =>
    letK ((decide ((i26x0 : Int) ≤ i15x0)) : Bool) fun b38 =>
    letK ((if b34 = true then b38 else false) : Bool) fun b39 =>
    letK ((decide ((((n12 : Nat) : Int) : Int) ≤ i15x0)) : Bool) fun b44 =>
    letK ((if b39 = true then b44 else false) : Bool) fun b45 =>
    some ((.bool b45), r26.2)
    )
  ) := (EV_eq (P := Try.prog) (T := T0) rfl cf3 [(.sl s0 n0), (.int .i64 i1)] h).trans (r3 mk0 E s0 n0 i1 h)
def k15x5 : AC := .ret
def k15x4 : AC := .seq (.mask 8) k15x5
def k15x3 : AC := .mask 3
def k15x2 : AC := .seq (.cond (.tmp 5)
   (.seq (.ops false [
      ⟨(some 3), .move (.c (.int .i64 0)), none, []⟩]) k15x4)
   (.skip)) k15x3
def k15x7 : AC := .ret
def k15x6 : AC := .seq (.mask 8) k15x7
def k15x1 : AC := .seq (.ops false [
    ⟨(some 6), .move (.tmp 0), none, []⟩,
    ⟨(some 7), .bin .other .sub (.tmp 6) (.c (.int .i64 1)), none, []⟩,
    ⟨(some 8), .load (.cell (.int .i64)) (.tmp 1), none, []⟩,
    ⟨(some 9), .bin .other .add (.tmp 7) (.tmp 8), none, []⟩,
    ⟨(some 10), .bin .other .rem (.tmp 9) (.c (.int .i64 15)), none, []⟩,
    ⟨(some 11), .bin .other .add (.c (.int .i64 1)) (.tmp 10), none, []⟩,
    ⟨(some 3), .move (.tmp 11), none, []⟩]) k15x6
def k15x0 : AC := .seq (.seq (.ops false [
    ⟨(some 4), .move (.tmp 0), none, []⟩,
    ⟨(some 5), .bin .other .eql (.tmp 4) (.c (.int .i64 0)), none, []⟩]) k15x2) k15x1
/-- provenance/provenancekeep4.TimingNames$1 -/
def c15 : AFn := ⟨12, [.tmp 3],
  .seq (.ops false [
    ⟨(some 3), .move (.c (.int .i64 0)), none, []⟩]) k15x0⟩
theorem r15 (i0 : Int) (p1 : Option Ad) (h : Heap) : runE M C c15 [(.int .i64 i0), (.ptr p1)] h = (
  letK ((decide ((i0 : Int) = 0)) : Bool) fun b5 =>
  if b5 = true then
    (
    some ((.int .i64 0), h)
    )
  else
    (
    letK ((IntKind.wrap .i64 (i0 - 1)) : Int) fun i7 =>
    atP p1 true fun a8 =>
    gI .i64 (ld1 h a8) true fun i8 =>
    letK ((IntKind.wrap .i64 (i7 + i8)) : Int) fun i9 =>
    letK ((Int.tmod i9 15) : Int) fun i10 =>
    letK ((IntKind.wrap .i64 (1 + i10)) : Int) fun i11 =>
    some ((.int .i64 i11), h)
    )
  ) := by kernel_rfl
theorem cf15 : cFn Try.prog 15 = some c15 := by kernel_rfl
theorem e15 (i0 : Int) (p1 : Option Ad) (h : Heap) : E 15 [(.int .i64 i0), (.ptr p1)] h = (
  letK ((decide ((i0 : Int) = 0)) : Bool) fun b5 =>
  if b5 = true then
    (
    some ((.int .i64 0), h)
    )
  else
    (
    letK ((IntKind.wrap .i64 (i0 - 1)) : Int) fun i7 =>
    atP p1 true fun a8 =>
    gI .i64 (ld1 h a8) true fun i8 =>
    letK ((IntKind.wrap .i64 (i7 + i8)) : Int) fun i9 =>
    letK ((Int.tmod i9 15) : Int) fun i10 =>
    letK ((IntKind.wrap .i64 (1 + i10)) : Int) fun i11 =>
    some ((.int .i64 i11), h)
    )
  ) := (EV_eq (P := Try.prog) (T := T0) rfl cf15 [(.int .i64 i0), (.ptr p1)] h).trans (r15 mk0 E i0 p1 h)
def k4x5 : AC := .ret
def k4x4 : AC := .seq (.mask 16) k4x5
def k4x3 : AC := .mask 9
def k4x2 : AC := .seq (.cond (.tmp 14)
   (.seq (.ops false [
      ⟨(some 4), .move (.c (.bool false)), none, []⟩]) k4x4)
   (.skip)) k4x3
def k4x17 : AC := .exit 0
def k4x16 : AC := .mask 7340129
def k4x21 : AC := .ops false [
    ⟨(some 41), .move (.tmp 6), none, []⟩,
    ⟨(some 42), .load (.agg [(.int .i64), (.int .i64), (.int .i64), (.int .i64), (.int .i64)]) (.tmp 8), none, []⟩,
    ⟨(some 43), .buildSl [(.int .i64 0), (.int .i64 0), (.int .i64 0), (.int .i64 0), (.int .i64 0)] 5 [(0, (.tmp 42))], none, []⟩,
    ⟨(some 44), .append [(.int .i64 0), (.int .i64 0), (.int .i64 0), (.int .i64 0), (.int .i64 0)] 5 40 (.tmp 41) (.tmp 43), none, []⟩,
    ⟨(some 6), .move (.tmp 44), none, []⟩]
def k4x20 : AC := .seq (.ops false [
    ⟨(some 26), .move (.tmp 5), none, []⟩,
    ⟨(some 27), .fieldAddr 1 (.tmp 8), none, []⟩,
    ⟨(some 28), .load (.cell (.int .i64)) (.tmp 27), none, []⟩,
    ⟨(some 30), .move (.tmp 5), none, []⟩,
    ⟨(some 31), .fieldAddr 2 (.tmp 8), none, []⟩,
    ⟨(some 32), .load (.cell (.int .i64)) (.tmp 31), none, []⟩,
    ⟨(some 34), .move (.tmp 5), none, []⟩,
    ⟨(some 35), .fieldAddr 3 (.tmp 8), none, []⟩,
    ⟨(some 36), .load (.cell (.int .i64)) (.tmp 35), none, []⟩,
    ⟨(some 29), .callV (.tmp 26) [(.tmp 28)] [(.cell (.int .i64))] (.int .i64 0), none, [.load 1 31 none, .load 1 35 none]⟩,
    ⟨(some 38), .fieldAddr 1 (.tmp 8), none, []⟩,
    ⟨(some 33), .callV (.tmp 30) [(.tmp 32)] [(.cell (.int .i64))] (.int .i64 0), none, [.load 1 35 none]⟩,
    ⟨(some 37), .callV (.tmp 34) [(.tmp 36)] [(.cell (.int .i64))] (.int .i64 0), none, []⟩,
    ⟨none, .store 1 (.tmp 38) (.tmp 29), none, []⟩,
    ⟨(some 39), .fieldAddr 2 (.tmp 8), none, []⟩,
    ⟨none, .store 1 (.tmp 39) (.tmp 33), none, []⟩,
    ⟨(some 40), .fieldAddr 3 (.tmp 8), none, []⟩,
    ⟨none, .store 1 (.tmp 40) (.tmp 37), none, []⟩]) k4x21
def k4x19 : AC := .mask 7340129
def k4x18 : AC := .ops false [
    ⟨(some 45), .bin .other .add (.tmp 22) (.c (.int .i64 1)), none, []⟩,
    ⟨(some 22), .move (.tmp 45), none, []⟩]
def k4x15 : AC := .seq (.seq (.block 1 (.seq (.ops false [
     ⟨(some 24), .indexAddr 5 (.tmp 20) (.tmp 22), none, []⟩,
     ⟨(some 25), .load (.agg [(.int .i64), (.int .i64), (.int .i64), (.int .i64), (.int .i64)]) (.tmp 24), none, []⟩,
     ⟨(some 8), .allocL [(.int .i64 0), (.int .i64 0), (.int .i64 0), (.int .i64 0), (.int .i64 0)], none, []⟩,
     ⟨none, .store 5 (.tmp 8) (.tmp 25), none, []⟩]) k4x20)) k4x19) k4x18
def k4x14 : AC := .seq (.seq (.cond (.tmp 23)
   (.skip)
   (.seq (.mask 65) k4x17)) k4x16) k4x15
def k4x13 : AC := .seq (.ops false [
    ⟨(some 23), .bin .other .lss (.tmp 22) (.tmp 21), none, []⟩]) k4x14
def k4x12 : AC := .mask 65
def k4x11 : AC := .seq (.block 0 (.loop 7340129 65 k4x13)) k4x12
def k4x25 : AC := .ret
def k4x24 : AC := .seq (.mask 16) k4x25
def k4x23 : AC := .seq (.ops true [
    ⟨(some 56), .move (.tmp 10), none, []⟩,
    ⟨(some 57), .bin .other .eql (.tmp 56) (.c (.int .i64 0)), none, []⟩,
    ⟨(some 58), .move (.tmp 57), none, []⟩,
    ⟨(some 59), .move (.tmp 12), (some (58, true)), []⟩,
    ⟨(some 60), .bin .other .eql (.tmp 59) (.c (.int .i64 0)), (some (58, true)), []⟩,
    ⟨(some 61), .pick (.tmp 58) (.tmp 60) (.c (.bool false)), none, []⟩,
    ⟨(some 62), .move (.tmp 61), none, []⟩,
    ⟨(some 63), .move (.tmp 9), (some (62, true)), []⟩,
    ⟨(some 64), .move (.tmp 11), (some (62, true)), []⟩,
    ⟨(some 65), .bin .other .eql (.tmp 63) (.tmp 64), (some (62, true)), []⟩,
    ⟨(some 66), .pick (.tmp 62) (.tmp 65) (.c (.bool false)), none, []⟩,
    ⟨(some 4), .move (.tmp 66), none, []⟩]) k4x24
def k4x22 : AC := .seq (.ops false [
    ⟨(some 52), .move (.tmp 6), none, []⟩,
    ⟨(some 53), .call 13 [(.tmp 52)] [(.cell (.int .i64)), (.cell (.int .i64))] .opq, none, []⟩,
    ⟨(some 51), .move (.tmp 53), none, []⟩,
    ⟨(some 54), .extract (.tmp 51) 0, none, []⟩,
    ⟨(some 55), .extract (.tmp 51) 1, none, []⟩,
    ⟨(some 11), .move (.tmp 54), none, []⟩,
    ⟨(some 12), .move (.tmp 55), none, []⟩]) k4x23
def k4x10 : AC := .seq (.ops false [
    ⟨(some 47), .move (.tmp 0), none, []⟩,
    ⟨(some 48), .call 13 [(.tmp 47)] [(.cell (.int .i64)), (.cell (.int .i64))] .opq, none, []⟩,
    ⟨(some 46), .move (.tmp 48), none, []⟩,
    ⟨(some 49), .extract (.tmp 46) 0, none, []⟩,
    ⟨(some 50), .extract (.tmp 46) 1, none, []⟩,
    ⟨(some 9), .move (.tmp 49), none, []⟩,
    ⟨(some 10), .move (.tmp 50), none, []⟩]) k4x22
def k4x9 : AC := .seq (.seq (.ops false [
    ⟨(some 20), .move (.tmp 0), none, []⟩,
    ⟨(some 21), .lenSl (.tmp 20), none, []⟩,
    ⟨(some 22), .move (.c (.int .i64 0)), none, []⟩]) k4x11) k4x10
def k4x8 : AC := .seq (.ops false [
    ⟨(some 6), .move (.c (.sl .nil 0)), none, []⟩]) k4x9
def k4x7 : AC := .seq (.ops false [
    ⟨(some 19), .makeFn 15 [] [(.tmp 3)], none, []⟩,
    ⟨(some 5), .move (.tmp 19), none, []⟩]) k4x8
def k4x6 : AC := .seq (.ops false [
    ⟨(some 17), .load (.cell (.int .i64)) (.tmp 3), none, []⟩,
    ⟨(some 18), .call 14 [(.tmp 17), (.c (.int .i64 15))] [(.cell (.int .i64))] (.int .i64 0), none, []⟩,
    ⟨none, .store 1 (.tmp 3) (.tmp 18), none, []⟩]) k4x7
def k4x1 : AC := .seq (.ops false [
    ⟨(some 15), .move (.tmp 0), none, []⟩,
    ⟨(some 16), .call 12 [(.tmp 15)] [(.cell .sl)] (.sl .nil 0), none, []⟩,
    ⟨(some 0), .move (.tmp 16), none, []⟩]) k4x6
def k4x0 : AC := .seq (.seq (.ops false [
    ⟨(some 13), .call 11 [] [(.cell .bool)] (.bool false), none, []⟩,
    ⟨(some 14), .un .not (.tmp 13), none, []⟩]) k4x2) k4x1
/-- provenance/provenancekeep4.TimingNames -/
def c4 : AFn := ⟨67, [.tmp 4],
  .seq (.ops false [
    ⟨(some 3), .boxH (.tmp 1), none, []⟩,
    ⟨(some 4), .move (.c (.bool false)), none, []⟩]) k4x0⟩
def S4xe0 (s0 : SA) (n0 : Nat) (s6 : SA) (n6 : Nat) (h : Heap) : St := ⟨(.g [] true (.sl s0 n0) :: (rep 5 (.g [] true (.sl s6 n6) :: (rep 60 [])))), h⟩
noncomputable def Q4x13 : Kont (AV × Heap) := (blockQ 0 (seqQ (evalE M C k4x12) (seqQ (evalE M C k4x10) (endQ [.tmp 4]))))
noncomputable def L4x13 (s0 : SA) (n0 : Nat) (p5c0 : Option Ad) (s6 : SA) (n6 : Nat) (s20 : SA) (n20 : Nat) (i21 : Int) (i22 : Int) (h : Heap) (Q : Kont R) : Option R := loopE (evalE M C k4x13) 7340129 65 ⟨(.g [] true (.sl s0 n0) :: (rep 4 (.g [] true (.fn 15 [] [(.ptr p5c0)]) :: (.g [] true (.sl s6 n6) :: (rep 13 (.g [] true (.sl s20 n20) :: (.g [] true (.int .i64 i21) :: (.g [] true (.int .i64 i22) :: (rep 44 []))))))))), h⟩ Q
theorem r4 (s0 : SA) (n0 : Nat) (i1 : Int) (h : Heap) : runE M C c4 [(.sl s0 n0), (.int .i64 i1)] h = (
  newK h (.cells [(.int .i64 i1)] .fix 0) fun h_2 =>
  (C 11 [] h_2).bind fun r13 =>
  gB (some r13.1) true fun b13 =>
  if (!b13) = true then
    (
    some ((.bool false), r13.2)
    )
  else
    (
    (C 12 [(.sl s0 n0)] r13.2).bind fun r16 =>
    gL (some r16.1) true fun s16 n16 =>
    gI .i64 (ld1 r16.2 ⟨List.length h, 0, 0⟩) true fun i17 =>
    (C 14 [(.int .i64 i17), (.int .i64 15)] r16.2).bind fun r18 =>
    gI .i64 (some r18.1) true fun i18 =>
    (st1 r18.2 ⟨List.length h, 0, 0⟩ (.int .i64 i18)).bind fun h_3 =>
    L4x13 M C s16 n16 (some ⟨List.length h, 0, 0⟩) .nil 0 s16 n16 ((n16 : Nat) : Int) 0 h_3 (Q4x13 M C)
    )
  ) := by kernel_rfl
theorem cf4 : cFn Try.prog 4 = some c4 := by kernel_rfl
theorem e4 (s0 : SA) (n0 : Nat) (i1 : Int) (h : Heap) : E 4 [(.sl s0 n0), (.int .i64 i1)] h = (
  newK h (.cells [(.int .i64 i1)] .fix 0) fun h_2 =>
  (E 11 [] h_2).bind fun r13 =>
  gB (some r13.1) true fun b13 =>
  if (!b13) = true then
    (
    some ((.bool false), r13.2)
    )
  else
    (
    (E 12 [(.sl s0 n0)] r13.2).bind fun r16 =>
    gL (some r16.1) true fun s16 n16 =>
    gI .i64 (ld1 r16.2 ⟨List.length h, 0, 0⟩) true fun i17 =>
    (E 14 [(.int .i64 i17), (.int .i64 15)] r16.2).bind fun r18 =>
    gI .i64 (some r18.1) true fun i18 =>
    (st1 r18.2 ⟨List.length h, 0, 0⟩ (.int .i64 i18)).bind fun h_3 =>
    L4x13 mk0 E s16 n16 (some ⟨List.length h, 0, 0⟩) .nil 0 s16 n16 ((n16 : Nat) : Int) 0 h_3 (Q4x13 mk0 E)
    )
  ) := (EV_eq (P := Try.prog) (T := T0) rfl cf4 [(.sl s0 n0), (.int .i64 i1)] h).trans (r4 mk0 E s0 n0 i1 h)
theorem L4x13xaux (s0 : SA) (n0 : Nat) (p5c0 : Option Ad) (s6 : SA) (n6 : Nat) (s20 : SA) (n20 : Nat) (i21 : Int) (i22 : Int) (h : Heap) (Q : Kont R) : (restrF 7340129 ⟨(.g [] true (.sl s0 n0) :: (rep 4 (.g [] true (.fn 15 [] [(.ptr p5c0)]) :: (.g [] true (.sl s6 n6) :: (rep 13 (.g [] true (.sl s20 n20) :: (.g [] true (.int .i64 i21) :: (.g [] true (.int .i64 i22) :: (rep 44 []))))))))), h⟩ fun σ => evalE M C k4x13 σ (roundQ M C k4x13 7340129 65 Q)) = (
  letK ((decide ((i22 : Int) < i21)) : Bool) fun b23 =>
  if b23 = true then
    (
    chk (true = true → (0 : Int) ≤ i22 ∧ (i22 : Int) < ((n20 : Nat) : Int)) <|
    atP (adP s20) true fun a24 =>
    gCells (ldN h (Ad.add a24 (Int.toNat i22 * 5)) 5) true fun l25 =>
    gI .i64 (l25[0]?) true fun i25x0 =>
    gI .i64 (l25[1]?) true fun i25x1 =>
    gI .i64 (l25[2]?) true fun i25x2 =>
    gI .i64 (l25[3]?) true fun i25x3 =>
    gI .i64 (l25[4]?) true fun i25x4 =>
    (C 15 [(.int .i64 i25x1), (.ptr p5c0)] h).bind fun r29 =>
    gI .i64 (some r29.1) true fun i29 =>
    (C 15 [(.int .i64 i25x2), (.ptr p5c0)] r29.2).bind fun r33 =>
    gI .i64 (some r33.1) true fun i33 =>
    (C 15 [(.int .i64 i25x3), (.ptr p5c0)] r33.2).bind fun r37 =>
    gI .i64 (some r37.1) true fun i37 =>
    newK r37.2 (.cells [(.int .i64 i25x0), (.int .i64 i29), (.int .i64 i33), (.int .i64 i37), (.int .i64 i25x4)] (.grow 5) 0) fun h_2 =>
    (ldSl h_2 (.pos ⟨List.length r37.2, 0, 0⟩) (1 * 5)).bind fun y44 =>
    (apnd h_2 (.sl s6 n6) 5 40 y44 1).bind fun r44 =>
    gL (some r44.1) true fun s44 n44 =>
    letK ((IntKind.wrap .i64 (i22 + 1)) : Int) fun i45 =>
    L4x13 M C s0 n0 p5c0 s44 n44 s20 n20 i21 i45 r44.2 Q
    )
  else
    (
    Q (.exit 0) (S4xe0 s0 n0 s6 n6 h)
    )
  ) := by kernel_rfl
theorem L4x13xeq (s0 : SA) (n0 : Nat) (p5c0 : Option Ad) (s6 : SA) (n6 : Nat) (s20 : SA) (n20 : Nat) (i21 : Int) (i22 : Int) (h : Heap) (Q : Kont R) : L4x13 mk0 C s0 n0 p5c0 s6 n6 s20 n20 i21 i22 h Q = (
  letK ((decide ((i22 : Int) < i21)) : Bool) fun b23 =>
  if b23 = true then
    (
    chk (true = true → (0 : Int) ≤ i22 ∧ (i22 : Int) < ((n20 : Nat) : Int)) <|
    atP (adP s20) true fun a24 =>
    gCells (ldN h (Ad.add a24 (Int.toNat i22 * 5)) 5) true fun l25 =>
    gI .i64 (l25[0]?) true fun i25x0 =>
    gI .i64 (l25[1]?) true fun i25x1 =>
    gI .i64 (l25[2]?) true fun i25x2 =>
    gI .i64 (l25[3]?) true fun i25x3 =>
    gI .i64 (l25[4]?) true fun i25x4 =>
    (C 15 [(.int .i64 i25x1), (.ptr p5c0)] h).bind fun r29 =>
    gI .i64 (some r29.1) true fun i29 =>
    (C 15 [(.int .i64 i25x2), (.ptr p5c0)] r29.2).bind fun r33 =>
    gI .i64 (some r33.1) true fun i33 =>
    (C 15 [(.int .i64 i25x3), (.ptr p5c0)] r33.2).bind fun r37 =>
    gI .i64 (some r37.1) true fun i37 =>
    newK r37.2 (.cells [(.int .i64 i25x0), (.int .i64 i29), (.int .i64 i33), (.int .i64 i37), (.int .i64 i25x4)] (.grow 5) 0) fun h_2 =>
    (ldSl h_2 (.pos ⟨List.length r37.2, 0, 0⟩) (1 * 5)).bind fun y44 =>
    (apnd h_2 (.sl s6 n6) 5 40 y44 1).bind fun r44 =>
    gL (some r44.1) true fun s44 n44 =>
    letK ((IntKind.wrap .i64 (i22 + 1)) : Int) fun i45 =>
    L4x13 mk0 C s0 n0 p5c0 s44 n44 s20 n20 i21 i45 r44.2 Q
    )
  else
    (
    Q (.exit 0) (S4xe0 s0 n0 s6 n6 h)
    )
  ) := loop_eqn C k4x13 7340129 65 (.g [] true (.sl s0 n0) :: (rep 4 (.g [] true (.fn 15 [] [(.ptr p5c0)]) :: (.g [] true (.sl s6 n6) :: (rep 13 (.g [] true (.sl s20 n20) :: (.g [] true (.int .i64 i21) :: (.g [] true (.int .i64 i22) :: (rep 44 []))))))))) h Q (by kernel_rfl) (L4x13xaux mk0 C s0 n0 p5c0 s6 n6 s20 n20 i21 i22 h Q)
theorem X4x13xe0 (s0 : SA) (n0 : Nat) (s6 : SA) (n6 : Nat) (h : Heap) : Q4x13 M C (.exit 0) (S4xe0 s0 n0 s6 n6 h) = (
  (C 13 [(.sl s0 n0)] h).bind fun r48 =>
  gT 2 r48.1 true fun u48 =>
  gI .i64 (some (List.getD u48 0 .opq)) true fun i48x0 =>
  gI .i64 (some (List.getD u48 1 .opq)) true fun i48x1 =>
  (C 13 [(.sl s6 n6)] r48.2).bind fun r53 =>
  gT 2 r53.1 true fun u53 =>
  gI .i64 (some (List.getD u53 0 .opq)) true fun i53x0 =>
  gI .i64 (some (List.getD u53 1 .opq)) true fun i53x1 =>
  letK ((decide ((i48x1 : Int) = 0)) : Bool) fun b57 =>
  letK ((decide ((i53x1 : Int) = 0)) : Bool) fun b60 =>
  letK ((if b57 = true then b60 else false) : Bool) fun b61 =>
  letK ((decide ((i48x0 : Int) = i53x0)) : Bool) fun b65 =>
  letK ((if b61 = true then b65 else false) : Bool) fun b66 =>
  some ((.bool b66), r53.2)
  ) := by kernel_rfl
def k16x2 : AC := .ret
def k16x1 : AC := .seq (.mask 1) k16x2
def k16x0 : AC := .seq (.ops false [
    ⟨(some 1), .build [(.int .i64 0), (.int .i64 0), (.int .i64 0), (.int .i64 0), (.int .i64 0), (.int .i64 0), (.int .i64 0), (.int .i64 0), (.int .i64 0), (.int .i64 0), (.int .i64 0), (.int .i64 0), (.int .i64 0), (.int .i64 0), (.int .i64 0), (.int .i64 0), (.int .i64 0), (.int .i64 0), (.int .i64 0), (.sl .nil 0), (.int .i64 0)] [], none, []⟩,
    ⟨(some 2), .boxH (.tmp 1), none, []⟩,
    ⟨(some 0), .move (.tmp 2), none, []⟩]) k16x1
/-- provenance/pipe.New -/
def c16 : AFn := ⟨3, [.tmp 0],
  .seq (.ops false [
    ⟨(some 0), .move (.c (.ptr none)), none, []⟩]) k16x0⟩
theorem r16 (h : Heap) : runE M C c16 [] h = (
  newK h (.cells [(.int .i64 0), (.int .i64 0), (.int .i64 0), (.int .i64 0), (.int .i64 0), (.int .i64 0), (.int .i64 0), (.int .i64 0), (.int .i64 0), (.int .i64 0), (.int .i64 0), (.int .i64 0), (.int .i64 0), (.int .i64 0), (.int .i64 0), (.int .i64 0), (.int .i64 0), (.int .i64 0), (.int .i64 0), (.sl .nil 0), (.int .i64 0)] .fix 0) fun h_2 =>
  some ((.ptr (some ⟨List.length h, 0, 0⟩)), h_2)
  ) := by kernel_rfl
theorem cf16 : cFn Try.prog 16 = some c16 := by kernel_rfl
theorem e16 (h : Heap) : E 16 [] h = (
  newK h (.cells [(.int .i64 0), (.int .i64 0), (.int .i64 0), (.int .i64 0), (.int .i64 0), (.int .i64 0), (.int .i64 0), (.int .i64 0), (.int .i64 0), (.int .i64 0), (.int .i64 0), (.int .i64 0), (.int .i64 0), (.int .i64 0), (.int .i64 0), (.int .i64 0), (.int .i64 0), (.int .i64 0), (.int .i64 0), (.sl .nil 0), (.int .i64 0)] .fix 0) fun h_2 =>
  some ((.ptr (some ⟨List.length h, 0, 0⟩)), h_2)
  ) := (EV_eq (P := Try.prog) (T := T0) rfl cf16 [] h).trans (r16 mk0 E h)
def k17x6 : AC := .ret
def k17x5 : AC := .seq (.mask 192) k17x6
def k17x4 : AC := .mask 769
def k17x3 : AC := .seq (.cond (.tmp 23)
   (.seq (.ops false [
      ⟨(some 24), .move (.tmp 10), none, []⟩,
      ⟨(some 6), .move (.c (.int .i64 0)), none, []⟩,
      ⟨(some 7), .move (.tmp 24), none, []⟩]) k17x5)
   (.skip)) k17x4
def k17x10 : AC := .ret
def k17x9 : AC := .seq (.mask 192) k17x10
def k17x8 : AC := .seq (.ops false [
    ⟨(some 36), .move (.tmp 9), none, []⟩,
    ⟨(some 6), .move (.tmp 36), none, []⟩,
    ⟨(some 7), .move (.c (.int .i64 0)), none, []⟩]) k17x9
def k17x7 : AC := .seq (.ops false [
    ⟨(some 29), .move (.tmp 0), none, []⟩,
    ⟨(some 30), .nilCheck (.tmp 29), none, []⟩,
    ⟨(some 31), .fieldAddr 20 (.tmp 30), none, []⟩,
    ⟨(some 32), .load (.cell (.int .i64)) (.tmp 31), none, []⟩,
    ⟨(some 33), .bin .other .add (.tmp 32) (.c (.int .i64 1)), none, []⟩,
    ⟨(some 34), .nilCheck (.tmp 29), none, []⟩,
    ⟨(some 35), .fieldAddr 20 (.tmp 34), none, []⟩,
    ⟨none, .store 1 (.tmp 35) (.tmp 33), none, []⟩]) k17x8
def k17x2 : AC := .seq (.ops false [
    ⟨(some 25), .move (.tmp 0), none, []⟩,
    ⟨(some 26), .load (.raw 20) (.tmp 8), none, []⟩,
    ⟨(some 27), .nilCheck (.tmp 25), none, []⟩,
    ⟨(some 28), .fieldAddr 0 (.tmp 27), none, []⟩,
    ⟨none, .store 20 (.tmp 28) (.tmp 26), none, []⟩]) k17x7
def k17x1 : AC := .seq (.seq (.ops false [
    ⟨(some 22), .move (.tmp 10), none, []⟩,
    ⟨(some 23), .bin .other .neq (.tmp 22) (.c (.int .i64 0)), none, []⟩]) k17x3) k17x2
def k17x0 : AC := .seq (.ops false [
    ⟨(some 12), .move (.tmp 0), none, []⟩,
    ⟨(some 13), .nilCheck (.tmp 12), none, []⟩,
    ⟨(some 14), .fieldAddr 0 (.tmp 13), none, []⟩,
    ⟨(some 15), .load (.raw 20) (.tmp 14), none, []⟩,
    ⟨(some 16), .load (.agg [(.int .i64), (.int .i64), (.int .i64), (.int .i64), (.int .i64)]) (.tmp 4), none, []⟩,
    ⟨(some 17), .move (.tmp 2), none, []⟩,
    ⟨(some 8), .allocL [(.int .i64 0), (.int .i64 0), (.int .i64 0), (.int .i64 0), (.int .i64 0), (.int .i64 0), (.int .i64 0), (.int .i64 0), (.int .i64 0), (.int .i64 0), (.int .i64 0), (.int .i64 0), (.int .i64 0), (.int .i64 0), (.int .i64 0), (.int .i64 0), (.int .i64 0), (.int .i64 0), (.int .i64 0), (.sl .nil 0)], none, []⟩,
    ⟨(some 18), .call 30 [(.tmp 15), (.tmp 16), (.tmp 17)] [(.raw 20), (.cell (.int .i64)), (.cell (.int .i64))] .opq, none, []⟩,
    ⟨(some 11), .move (.tmp 18), none, []⟩,
    ⟨(some 19), .extract (.tmp 11) 0, none, []⟩,
    ⟨(some 20), .extract (.tmp 11) 1, none, []⟩,
    ⟨(some 21), .extract (.tmp 11) 2, none, []⟩,
    ⟨none, .store 20 (.tmp 8) (.tmp 19), none, []⟩,
    ⟨(some 9), .move (.tmp 20), none, []⟩,
    ⟨(some 10), .move (.tmp 21), none, []⟩]) k17x1
/-- (*provenance/pipe.Pipe).Op -/
def c17 : AFn := ⟨37, [.tmp 6, .tmp 7],
  .seq (.ops false [
    ⟨(some 4), .boxL (.tmp 1), none, []⟩,
    ⟨(some 6), .move (.c (.int .i64 0)), none, []⟩,
    ⟨(some 7), .move (.c (.int .i64 0)), none, []⟩]) k17x0⟩
theorem r17 (p0 : Option Ad) (i1x0 : Int) (i1x1 : Int) (i1x2 : Int) (i1x3 : Int) (i1x4 : Int) (i2 : Int) (h : Heap) : runE M C c17 [(.ptr p0), (.agg [(.int .i64 i1x0), (.int .i64 i1x1), (.int .i64 i1x2), (.int .i64 i1x3), (.int .i64 i1x4)]), (.int .i64 i2)] h = (
  atP p0 true fun a13 =>
  gCells (ldN h (Ad.add a13 0) 20) true fun l15 =>
  (C 30 [(.agg l15), (.agg [(.int .i64 i1x0), (.int .i64 i1x1), (.int .i64 i1x2), (.int .i64 i1x3), (.int .i64 i1x4)]), (.int .i64 i2)] h).bind fun r18 =>
  gT 3 r18.1 true fun u18 =>
  gA (List.getD u18 0 .opq) true fun l18x0 =>
  chk (true = true → l18x0.length = 20) <|
  gI .i64 (some (List.getD u18 1 .opq)) true fun i18x1 =>
  gI .i64 (some (List.getD u18 2 .opq)) true fun i18x2 =>
  chk (List.length l18x0 = 20 ∧ flatL l18x0 = true ∧ 0 + 20 ≤ 20) <|
  letK (splice 0 l18x0 [(.int .i64 0), (.int .i64 0), (.int .i64 0), (.int .i64 0), (.int .i64 0), (.int .i64 0), (.int .i64 0), (.int .i64 0), (.int .i64 0), (.int .i64 0), (.int .i64 0), (.int .i64 0), (.int .i64 0), (.int .i64 0), (.int .i64 0), (.int .i64 0), (.int .i64 0), (.int .i64 0), (.int .i64 0), (.sl .nil 0)]) fun lx =>
  letK ((!decide ((i18x2 : Int) = 0)) : Bool) fun b23 =>
  if b23 = true then
    (
    some (.tup [(.int .i64 0), (.int .i64 i18x2)], r18.2)
    )
  else
    (
    chk (true = true → 0 + 20 ≤ List.length lx) <|
    atP p0 true fun a27 =>
    chk (List.length ((List.drop 0 lx).take 20) = 20 ∧ flatL ((List.drop 0 lx).take 20) = true) <|
    (stN r18.2 (Ad.add a27 0) ((List.drop 0 lx).take 20)).bind fun h_2 =>
    atP p0 true fun a30 =>
    gI .i64 (ld1 h_2 (Ad.add a30 20)) true fun i32 =>
    letK ((IntKind.wrap .i64 (i32 + 1)) : Int) fun i33 =>
    atP p0 true fun a34 =>
    (st1 h_2 (Ad.add a34 20) (.int .i64 i33)).bind fun h_3 =>
    some (.tup [(.int .i64 i18x1), (.int .i64 0)], h_3)
    )
  ) := by kernel_rfl
theorem cf17 : cFn Try.prog 17 = some c17 := by kernel_rfl
theorem e17 (p0 : Option Ad) (i1x0 : Int) (i1x1 : Int) (i1x2 : Int) (i1x3 : Int) (i1x4 : Int) (i2 : Int) (h : Heap) : E 17 [(.ptr p0), (.agg [(.int .i64 i1x0), (.int .i64 i1x1), (.int .i64 i1x2), (.int .i64 i1x3), (.int .i64 i1x4)]), (.int .i64 i2)] h = (
  atP p0 true fun a13 =>
  gCells (ldN h (Ad.add a13 0) 20) true fun l15 =>
  (E 30 [(.agg l15), (.agg [(.int .i64 i1x0), (.int .i64 i1x1), (.int .i64 i1x2), (.int .i64 i1x3), (.int .i64 i1x4)]), (.int .i64 i2)] h).bind fun r18 =>
  gT 3 r18.1 true fun u18 =>
  gA (List.getD u18 0 .opq) true fun l18x0 =>
  chk (true = true → l18x0.length = 20) <|
  gI .i64 (some (List.getD u18 1 .opq)) true fun i18x1 =>
  gI .i64 (some (List.getD u18 2 .opq)) true fun i18x2 =>
  chk (List.length l18x0 = 20 ∧ flatL l18x0 = true ∧ 0 + 20 ≤ 20) <|
  letK (splice 0 l18x0 [(.int .i64 0), (.int .i64 0), (.int .i64 0), (.int .i64 0), (.int .i64 0), (.int .i64 0), (.int .i64 0), (.int .i64 0), (.int .i64 0), (.int .i64 0), (.int .i64 0), (.int .i64 0), (.int .i64 0), (.int .i64 0), (.int .i64 0), (.int .i64 0), (.int .i64 0), (.int .i64 0), (.int .i64 0), (.sl .nil 0)]) fun lx =>
  letK ((!decide ((i18x2 : Int) = 0)) : Bool) fun b23 =>
  if b23 = true then
    (
    some (.tup [(.int .i64 0), (.int .i64 i18x2)], r18.2)
    )
  else
    (
    chk (true = true → 0 + 20 ≤ List.length lx) <|
    atP p0 true fun a27 =>
    chk (List.length ((List.drop 0 lx).take 20) = 20 ∧ flatL ((List.drop 0 lx).take 20) = true) <|
    (stN r18.2 (Ad.add a27 0) ((List.drop 0 lx).take 20)).bind fun h_2 =>
    atP p0 true fun a30 =>
    gI .i64 (ld1 h_2 (Ad.add a30 20)) true fun i32 =>
    letK ((IntKind.wrap .i64 (i32 + 1)) : Int) fun i33 =>
    atP p0 true fun a34 =>
    (st1 h_2 (Ad.add a34 20) (.int .i64 i33)).bind fun h_3 =>
    some (.tup [(.int .i64 i18x1), (.int .i64 0)], h_3)
    )
  ) := (EV_eq (P := Try.prog) (T := T0) rfl cf17 [(.ptr p0), (.agg [(.int .i64 i1x0), (.int .i64 i1x1), (.int .i64 i1x2), (.int .i64 i1x3), (.int .i64 i1x4)]), (.int .i64 i2)] h).trans (r17 mk0 E p0 i1x0 i1x1 i1x2 i1x3 i1x4 i2 h)
def k18x2 : AC := .ret
def k18x1 : AC := .seq (.mask 4) k18x2
def k18x0 : AC := .seq (.ops false [
    ⟨(some 3), .move (.tmp 0), none, []⟩,
    ⟨(some 4), .nilCheck (.tmp 3), none, []⟩,
    ⟨(some 5), .fieldAddr 0 (.tmp 4), none, []⟩,
    ⟨(some 6), .fieldAddr 2 (.tmp 5), none, []⟩,
    ⟨(some 7), .load (.cell (.int .i64)) (.tmp 6), none, []⟩,
    ⟨(some 2), .move (.tmp 7), none, []⟩]) k18x1
/-- (*provenance/pipe.Pipe).Cycles -/
def c18 : AFn := ⟨8, [.tmp 2],
  .seq (.ops false [
    ⟨(some 2), .move (.c (.int .i64 0)), none, []⟩]) k18x0⟩
theorem r18 (p0 : Option Ad) (h : Heap) : runE M C c18 [(.ptr p0)] h = (
  atP p0 true fun a4 =>
  gI .i64 (ld1 h (Ad.add (Ad.add a4 0) 2)) true fun i7 =>
  some ((.int .i64 i7), h)
  ) := by kernel_rfl
theorem cf18 : cFn Try.prog 18 = some c18 := by kernel_rfl
theorem e18 (p0 : Option Ad) (h : Heap) : E 18 [(.ptr p0)] h = (
  atP p0 true fun a4 =>
  gI .i64 (ld1 h (Ad.add (Ad.add a4 0) 2)) true fun i7 =>
  some ((.int .i64 i7), h)
  ) := (EV_eq (P := Try.prog) (T := T0) rfl cf18 [(.ptr p0)] h).trans (r18 mk0 E p0 h)
def k19x2 : AC := .ret
def k19x1 : AC := .seq (.mask 4) k19x2
def k19x0 : AC := .seq (.ops false [
    ⟨(some 3), .move (.tmp 0), none, []⟩,
    ⟨(some 4), .nilCheck (.tmp 3), none, []⟩,
    ⟨(some 5), .fieldAddr 20 (.tmp 4), none, []⟩,
    ⟨(some 6), .load (.cell (.int .i64)) (.tmp 5), none, []⟩,
    ⟨(some 2), .move (.tmp 6), none, []⟩]) k19x1
/-- (*provenance/pipe.Pipe).Ops -/
def c19 : AFn := ⟨7, [.tmp 2],
  .seq (.ops false [
    ⟨(some 2), .move (.c (.int .i64 0)), none, []⟩]) k19x0⟩
theorem r19 (p0 : Option Ad) (h : Heap) : runE M C c19 [(.ptr p0)] h = (
  atP p0 true fun a4 =>
  gI .i64 (ld1 h (Ad.add a4 20)) true fun i6 =>
  some ((.int .i64 i6), h)
  ) := by kernel_rfl
theorem cf19 : cFn Try.prog 19 = some c19 := by kernel_rfl
theorem e19 (p0 : Option Ad) (h : Heap) : E 19 [(.ptr p0)] h = (
  atP p0 true fun a4 =>
  gI .i64 (ld1 h (Ad.add a4 20)) true fun i6 =>
  some ((.int .i64 i6), h)
  ) := (EV_eq (P := Try.prog) (T := T0) rfl cf19 [(.ptr p0)] h).trans (r19 mk0 E p0 h)
def k20x5 : AC := .ret
def k20x4 : AC := .seq (.mask 16) k20x5
def k20x3 : AC := .mask 3
def k20x2 : AC := .seq (.cond (.tmp 13)
   (.seq (.ops false [
      ⟨(some 4), .move (.c (.int .i64 4)), none, []⟩]) k20x4)
   (.skip)) k20x3
def k20x16 : AC := .exit 0
def k20x15 : AC := .mask 61572651155489
def k20x21 : AC := .join 61572651155489
def k20x20 : AC := .seq (.cond (.tmp 55)
   (.ops false [
      ⟨(some 56), .move (.tmp 5), none, []⟩,
      ⟨(some 57), .move (.tmp 7), none, []⟩,
      ⟨(some 58), .buildSl [(.int .i64 0)] 1 [(0, (.tmp 57))], none, []⟩,
      ⟨(some 59), .append [(.int .i64 0)] 1 8 (.tmp 56) (.tmp 58), none, []⟩,
      ⟨(some 5), .move (.tmp 59), none, []⟩])
   (.skip)) k20x21
def k20x19 : AC := .seq (.ops false [
    ⟨(some 49), .move (.tmp 7), none, []⟩,
    ⟨(some 50), .move (.tmp 0), none, []⟩,
    ⟨(some 51), .nilCheck (.tmp 50), none, []⟩,
    ⟨(some 52), .fieldAddr 0 (.tmp 51), none, []⟩,
    ⟨(some 53), .fieldAddr 0 (.tmp 52), none, []⟩,
    ⟨(some 54), .load (.cell (.int .i64)) (.tmp 53), none, []⟩,
    ⟨(some 55), .bin .other .geq (.tmp 49) (.tmp 54), none, []⟩]) k20x20
def k20x18 : AC := .mask 61572651155489
def k20x17 : AC := .ops false [
    ⟨(some 60), .bin .other .add (.tmp 45) (.c (.int .i64 1)), none, []⟩,
    ⟨(some 45), .move (.tmp 60), none, []⟩]
def k20x14 : AC := .seq (.seq (.block 1 (.seq (.ops false [
     ⟨(some 47), .indexAddr 1 (.tmp 43) (.tmp 45), none, []⟩,
     ⟨(some 48), .load (.cell (.int .i64)) (.tmp 47), none, []⟩,
     ⟨(some 7), .move (.tmp 48), none, []⟩]) k20x19)) k20x18) k20x17
def k20x13 : AC := .seq (.seq (.cond (.tmp 46)
   (.skip)
   (.seq (.mask 33) k20x16)) k20x15) k20x14
def k20x12 : AC := .seq (.ops false [
    ⟨(some 46), .bin .other .lss (.tmp 45) (.tmp 44), none, []⟩]) k20x13
def k20x11 : AC := .mask 33
def k20x10 : AC := .seq (.block 0 (.loop 61572651155489 33 k20x12)) k20x11
def k20x25 : AC := .ret
def k20x24 : AC := .seq (.mask 16) k20x25
def k20x23 : AC := .seq (.ops false [
    ⟨(some 4), .move (.c (.int .i64 0)), none, []⟩]) k20x24
def k20x9 : AC := .seq (.ops false [
    ⟨(some 61), .move (.tmp 0), none, []⟩,
    ⟨(some 62), .move (.tmp 5), none, []⟩,
    ⟨(some 63), .nilCheck (.tmp 61), none, []⟩,
    ⟨(some 64), .fieldAddr 0 (.tmp 63), none, []⟩,
    ⟨(some 65), .fieldAddr 19 (.tmp 64), none, []⟩,
    ⟨none, .store 1 (.tmp 65) (.tmp 62), none, []⟩]) k20x23
def k20x8 : AC := .seq (.seq (.ops false [
    ⟨(some 39), .move (.tmp 0), none, []⟩,
    ⟨(some 40), .nilCheck (.tmp 39), none, []⟩,
    ⟨(some 41), .fieldAddr 0 (.tmp 40), none, []⟩,
    ⟨(some 42), .fieldAddr 19 (.tmp 41), none, []⟩,
    ⟨(some 43), .load (.cell .sl) (.tmp 42), none, []⟩,
    ⟨(some 44), .lenSl (.tmp 43), none, []⟩,
    ⟨(some 45), .move (.c (.int .i64 0)), none, []⟩]) k20x10) k20x9
def k20x7 : AC := .seq (.ops false [
    ⟨(some 5), .move (.c (.sl .nil 0)), none, []⟩]) k20x8
def k20x6 : AC := .seq (.ops false [
    ⟨(some 24), .move (.tmp 0), none, []⟩,
    ⟨(some 25), .move (.tmp 0), none, []⟩,
    ⟨(some 26), .nilCheck (.tmp 25), none, []⟩,
    ⟨(some 27), .fieldAddr 0 (.tmp 26), none, []⟩,
    ⟨(some 28), .fieldAddr 2 (.tmp 27), none, []⟩,
    ⟨(some 29), .load (.cell (.int .i64)) (.tmp 28), none, []⟩,
    ⟨(some 30), .move (.tmp 0), none, []⟩,
    ⟨(some 31), .nilCheck (.tmp 30), none, []⟩,
    ⟨(some 32), .fieldAddr 0 (.tmp 31), none, []⟩,
    ⟨(some 33), .fieldAddr 0 (.tmp 32), none, []⟩,
    ⟨(some 34), .load (.cell (.int .i64)) (.tmp 33), none, []⟩,
    ⟨(some 35), .mm true [(.tmp 29), (.tmp 34)], none, []⟩,
    ⟨(some 36), .nilCheck (.tmp 24), none, []⟩,
    ⟨(some 37), .fieldAddr 0 (.tmp 36), none, []⟩,
    ⟨(some 38), .fieldAddr 2 (.tmp 37), none, []⟩,
    ⟨none, .store 1 (.tmp 38) (.tmp 35), none, []⟩]) k20x7
def k20x1 : AC := .seq (.ops false [
    ⟨(some 14), .move (.tmp 0), none, []⟩,
    ⟨(some 15), .nilCheck (.tmp 14), none, []⟩,
    ⟨(some 16), .fieldAddr 0 (.tmp 15), none, []⟩,
    ⟨(some 17), .fieldAddr 0 (.tmp 16), none, []⟩,
    ⟨(some 18), .load (.cell (.int .i64)) (.tmp 17), none, []⟩,
    ⟨(some 19), .move (.tmp 1), none, []⟩,
    ⟨(some 20), .bin .other .add (.tmp 18) (.tmp 19), none, []⟩,
    ⟨(some 21), .nilCheck (.tmp 14), none, []⟩,
    ⟨(some 22), .fieldAddr 0 (.tmp 21), none, []⟩,
    ⟨(some 23), .fieldAddr 0 (.tmp 22), none, []⟩,
    ⟨none, .store 1 (.tmp 23) (.tmp 20), none, []⟩]) k20x6
def k20x0 : AC := .seq (.seq (.ops true [
    ⟨(some 8), .move (.tmp 1), none, []⟩,
    ⟨(some 9), .bin .other .lss (.tmp 8) (.c (.int .i64 0)), none, []⟩,
    ⟨(some 10), .move (.tmp 9), none, []⟩,
    ⟨(some 11), .move (.tmp 1), (some (10, false)), []⟩,
    ⟨(some 12), .bin .other .gtr (.tmp 11) (.c (.int .i64 100)), (some (10, false)), []⟩,
    ⟨(some 13), .pick (.tmp 10) (.c (.bool true)) (.tmp 12), none, []⟩]) k20x2) k20x1
/-- (*provenance/pipe.Pipe).Flush -/
def c20 : AFn := ⟨66, [.tmp 4],
  .seq (.ops false [
    ⟨(some 4), .move (.c (.int .i64 0)), none, []⟩]) k20x0⟩
def S20xe0 (p0 : Option Ad) (s5 : SA) (n5 : Nat) (h : Heap) : St := ⟨(.g [] true (.ptr p0) :: (rep 4 (.g [] true (.sl s5 n5) :: (rep 60 [])))), h⟩
noncomputable def Q20x12 : Kont (AV × Heap) := (blockQ 0 (seqQ (evalE M C k20x11) (seqQ (evalE M C k20x9) (endQ [.tmp 4]))))
noncomputable def L20x12 (p0 : Option Ad) (s5 : SA) (n5 : Nat) (s43 : SA) (n43 : Nat) (i44 : Int) (i45 : Int) (h : Heap) (Q : Kont R) : Option R := loopE (evalE M C k20x12) 61572651155489 33 ⟨(.g [] true (.ptr p0) :: (rep 4 (.g [] true (.sl s5 n5) :: (rep 37 (.g [] true (.sl s43 n43) :: (.g [] true (.int .i64 i44) :: (.g [] true (.int .i64 i45) :: (rep 20 [])))))))), h⟩ Q
noncomputable def J20x22 (p0 : Option Ad) (s5 : SA) (n5 : Nat) (s43 : SA) (n43 : Nat) (i44 : Int) (i45 : Int) (h : Heap) (Q : Kont R) : Option R := M R (blockQ 1 (seqQ (evalE M C k20x18) (seqQ (evalE M C k20x17) (roundQ M C k20x12 61572651155489 33 Q)))) (.g [] true (.ptr p0) :: (rep 4 (.g [] true (.sl s5 n5) :: (rep 37 (.g [] true (.sl s43 n43) :: (.g [] true (.int .i64 i44) :: (.g [] true (.int .i64 i45) :: (rep 20 [])))))))) h
theorem r20 (p0 : Option Ad) (i1 : Int) (h : Heap) : runE M C c20 [(.ptr p0), (.int .i64 i1)] h = (
  letK ((decide ((i1 : Int) < 0)) : Bool) fun b9 =>
  letK ((decide ((100 : Int) < i1)) : Bool) fun b12 =>
  letK ((if b9 = true then true else b12) : Bool) fun b13 =>
  if b13 = true then
    (
    some ((.int .i64 4), h)
    )
  else
    (
    atP p0 true fun a15 =>
    gI .i64 (ld1 h (Ad.add (Ad.add a15 0) 0)) true fun i18 =>
    letK ((IntKind.wrap .i64 (i18 + i1)) : Int) fun i20 =>
    atP p0 true fun a21 =>
    (st1 h (Ad.add (Ad.add a21 0) 0) (.int .i64 i20)).bind fun h_2 =>
    atP p0 true fun a26 =>
    gI .i64 (ld1 h_2 (Ad.add (Ad.add a26 0) 2)) true fun i29 =>
    atP p0 true fun a31 =>
    gI .i64 (ld1 h_2 (Ad.add (Ad.add a31 0) 0)) true fun i34 =>
    letK ((foldMM true i29 [i34]) : Int) fun i35 =>
    atP p0 true fun a36 =>
    (st1 h_2 (Ad.add (Ad.add a36 0) 2) (.int .i64 i35)).bind fun h_3 =>
    atP p0 true fun a40 =>
    gL (ld1 h_3 (Ad.add (Ad.add a40 0) 19)) true fun s43 n43 =>
    L20x12 M C p0 .nil 0 s43 n43 ((n43 : Nat) : Int) 0 h_3 (Q20x12 M C)
    )
  ) := by kernel_rfl
theorem cf20 : cFn Try.prog 20 = some c20 := by kernel_rfl
theorem e20 (p0 : Option Ad) (i1 : Int) (h : Heap) : E 20 [(.ptr p0), (.int .i64 i1)] h = (
  letK ((decide ((i1 : Int) < 0)) : Bool) fun b9 =>
  letK ((decide ((100 : Int) < i1)) : Bool) fun b12 =>
  letK ((if b9 = true then true else b12) : Bool) fun b13 =>
  if b13 = true then
    (
    some ((.int .i64 4), h)
    )
  else
    (
    atP p0 true fun a15 =>
    gI .i64 (ld1 h (Ad.add (Ad.add a15 0) 0)) true fun i18 =>
    letK ((IntKind.wrap .i64 (i18 + i1)) : Int) fun i20 =>
    atP p0 true fun a21 =>
    (st1 h (Ad.add (Ad.add a21 0) 0) (.int .i64 i20)).bind fun h_2 =>
    atP p0 true fun a26 =>
    gI .i64 (ld1 h_2 (Ad.add (Ad.add a26 0) 2)) true fun i29 =>
    atP p0 true fun a31 =>
    gI .i64 (ld1 h_2 (Ad.add (Ad.add a31 0) 0)) true fun i34 =>
    letK ((foldMM true i29 [i34]) : Int) fun i35 =>
    atP p0 true fun a36 =>
    (st1 h_2 (Ad.add (Ad.add a36 0) 2) (.int .i64 i35)).bind fun h_3 =>
    atP p0 true fun a40 =>
    gL (ld1 h_3 (Ad.add (Ad.add a40 0) 19)) true fun s43 n43 =>
    L20x12 mk0 E p0 .nil 0 s43 n43 ((n43 : Nat) : Int) 0 h_3 (Q20x12 mk0 E)
    )
  ) := (EV_eq (P := Try.prog) (T := T0) rfl cf20 [(.ptr p0), (.int .i64 i1)] h).trans (r20 mk0 E p0 i1 h)
theorem L20x12xaux (p0 : Option Ad) (s5 : SA) (n5 : Nat) (s43 : SA) (n43 : Nat) (i44 : Int) (i45 : Int) (h : Heap) (Q : Kont R) : (restrF 61572651155489 ⟨(.g [] true (.ptr p0) :: (rep 4 (.g [] true (.sl s5 n5) :: (rep 37 (.g [] true (.sl s43 n43) :: (.g [] true (.int .i64 i44) :: (.g [] true (.int .i64 i45) :: (rep 20 [])))))))), h⟩ fun σ => evalE M C k20x12 σ (roundQ M C k20x12 61572651155489 33 Q)) = (
  letK ((decide ((i45 : Int) < i44)) : Bool) fun b46 =>
  if b46 = true then
    (
    chk (true = true → (0 : Int) ≤ i45 ∧ (i45 : Int) < ((n43 : Nat) : Int)) <|
    atP (adP s43) true fun a47 =>
    gI .i64 (ld1 h (Ad.add a47 (Int.toNat i45 * 1))) true fun i48 =>
    atP p0 true fun a51 =>
    gI .i64 (ld1 h (Ad.add (Ad.add a51 0) 0)) true fun i54 =>
    letK ((decide ((i54 : Int) ≤ i48)) : Bool) fun b55 =>
    if b55 = true then
      (
      newK h (.cells [(.int .i64 i48)] (.grow 1) 0) fun h_2 =>
      (ldSl h_2 (.pos ⟨List.length h, 0, 0⟩) (1 * 1)).bind fun y59 =>
      (apnd h_2 (.sl s5 n5) 1 8 y59 1).bind fun r59 =>
      gL (some r59.1) true fun s59 n59 =>
      J20x22 M C p0 s59 n59 s43 n43 i44 i45 r59.2 Q
      )
    else
      (
      J20x22 M C p0 s5 n5 s43 n43 i44 i45 h Q
      )
    )
  else
    (
    Q (.exit 0) (S20xe0 p0 s5 n5 h)
    )
  ) := by kernel_rfl
theorem L20x12xeq (p0 : Option Ad) (s5 : SA) (n5 : Nat) (s43 : SA) (n43 : Nat) (i44 : Int) (i45 : Int) (h : Heap) (Q : Kont R) : L20x12 mk0 C p0 s5 n5 s43 n43 i44 i45 h Q = (
  letK ((decide ((i45 : Int) < i44)) : Bool) fun b46 =>
  if b46 = true then
    (
    chk (true = true → (0 : Int) ≤ i45 ∧ (i45 : Int) < ((n43 : Nat) : Int)) <|
    atP (adP s43) true fun a47 =>
    gI .i64 (ld1 h (Ad.add a47 (Int.toNat i45 * 1))) true fun i48 =>
    atP p0 true fun a51 =>
    gI .i64 (ld1 h (Ad.add (Ad.add a51 0) 0)) true fun i54 =>
    letK ((decide ((i54 : Int) ≤ i48)) : Bool) fun b55 =>
    if b55 = true then
      (
      newK h (.cells [(.int .i64 i48)] (.grow 1) 0) fun h_2 =>
      (ldSl h_2 (.pos ⟨List.length h, 0, 0⟩) (1 * 1)).bind fun y59 =>
      (apnd h_2 (.sl s5 n5) 1 8 y59 1).bind fun r59 =>
      gL (some r59.1) true fun s59 n59 =>
      J20x22 mk0 C p0 s59 n59 s43 n43 i44 i45 r59.2 Q
      )
    else
      (
      J20x22 mk0 C p0 s5 n5 s43 n43 i44 i45 h Q
      )
    )
  else
    (
    Q (.exit 0) (S20xe0 p0 s5 n5 h)
    )
  ) := loop_eqn C k20x12 61572651155489 33 (.g [] true (.ptr p0) :: (rep 4 (.g [] true (.sl s5 n5) :: (rep 37 (.g [] true (.sl s43 n43) :: (.g [] true (.int .i64 i44) :: (.g [] true (.int .i64 i45) :: (rep 20 [])))))))) h Q (by kernel_rfl) (L20x12xaux mk0 C p0 s5 n5 s43 n43 i44 i45 h Q)
theorem J20x22xaux (p0 : Option Ad) (s5 : SA) (n5 : Nat) (s43 : SA) (n43 : Nat) (i44 : Int) (i45 : Int) (h : Heap) (Q : Kont R) : (forceK tk (.g [] true (.ptr p0) :: (rep 4 (.g [] true (.sl s5 n5) :: (rep 37 (.g [] true (.sl s43 n43) :: (.g [] true (.int .i64 i44) :: (.g [] true (.int .i64 i45) :: (rep 20 [])))))))) fun e => (blockQ 1 (seqQ (evalE M C k20x18) (seqQ (evalE M C k20x17) (roundQ M C k20x12 61572651155489 33 Q)))) .normal ⟨e, h⟩) = (
  letK ((IntKind.wrap .i64 (i45 + 1)) : Int) fun i60 =>
  L20x12 M C p0 s5 n5 s43 n43 i44 i60 h Q
  ) := by kernel_rfl
theorem J20x22xeq (p0 : Option Ad) (s5 : SA) (n5 : Nat) (s43 : SA) (n43 : Nat) (i44 : Int) (i45 : Int) (h : Heap) (Q : Kont R) : J20x22 mk0 C p0 s5 n5 s43 n43 i44 i45 h Q = (
  letK ((IntKind.wrap .i64 (i45 + 1)) : Int) fun i60 =>
  L20x12 mk0 C p0 s5 n5 s43 n43 i44 i60 h Q
  ) := join_eqn (blockQ 1 (seqQ (evalE mk0 C k20x18) (seqQ (evalE mk0 C k20x17) (roundQ mk0 C k20x12 61572651155489 33 Q)))) (.g [] true (.ptr p0) :: (rep 4 (.g [] true (.sl s5 n5) :: (rep 37 (.g [] true (.sl s43 n43) :: (.g [] true (.int .i64 i44) :: (.g [] true (.int .i64 i45) :: (rep 20 [])))))))) h (J20x22xaux mk0 C p0 s5 n5 s43 n43 i44 i45 h Q)
theorem X20x12xe0 (p0 : Option Ad) (s5 : SA) (n5 : Nat) (h : Heap) : Q20x12 M C (.exit 0) (S20xe0 p0 s5 n5 h) = (
  atP p0 true fun a63 =>
  (st1 h (Ad.add (Ad.add a63 0) 19) (.sl s5 n5)).bind fun h_2 =>
  some ((.int .i64 0), h_2)
  ) := by kernel_rfl
def k5x6 : AC := .ret
def k5x5 : AC := .seq (.mask 4) k5x6
def k5x4 : AC := .mask 9
def k5x3 : AC := .seq (.cond (.tmp 17)
   (.seq (.ops false [
      ⟨(some 2), .move (.c (.bool false)), none, []⟩]) k5x5)
   (.skip)) k5x4
def k5x16 : AC := .exit 0
def k5x15 : AC := .mask 7340057
def k5x25 : AC := .ret
def k5x24 : AC := .seq (.mask 4) k5x25
def k5x23 : AC := .mask 7340169
def k5x22 : AC := .seq (.cond (.tmp 38)
   (.seq (.ops false [
      ⟨(some 2), .move (.c (.bool false)), none, []⟩]) k5x24)
   (.skip)) k5x23
def k5x21 : AC := .ops false [
    ⟨(some 39), .move (.tmp 7), none, []⟩,
    ⟨(some 4), .move (.tmp 39), none, []⟩]
def k5x20 : AC := .seq (.seq (.ops true [
    ⟨(some 32), .move (.tmp 8), none, []⟩,
    ⟨(some 33), .bin .other .neq (.tmp 32) (.c (.int .i64 0)), none, []⟩,
    ⟨(some 34), .move (.tmp 33), none, []⟩,
    ⟨(some 35), .move (.tmp 7), (some (34, false)), []⟩,
    ⟨(some 36), .move (.tmp 4), (some (34, false)), []⟩,
    ⟨(some 37), .bin .other .leq (.tmp 35) (.tmp 36), (some (34, false)), []⟩,
    ⟨(some 38), .pick (.tmp 34) (.c (.bool true)) (.tmp 37), none, []⟩]) k5x22) k5x21
def k5x19 : AC := .seq (.ops false [
    ⟨(some 27), .move (.tmp 3), none, []⟩,
    ⟨(some 28), .load (.agg [(.int .i64), (.int .i64), (.int .i64), (.int .i64), (.int .i64)]) (.tmp 6), none, []⟩,
    ⟨(some 29), .call 17 [(.tmp 27), (.tmp 28), (.c (.int .i64 0))] [(.cell (.int .i64)), (.cell (.int .i64))] .opq, none, []⟩,
    ⟨(some 26), .move (.tmp 29), none, []⟩,
    ⟨(some 30), .extract (.tmp 26) 0, none, []⟩,
    ⟨(some 31), .extract (.tmp 26) 1, none, []⟩,
    ⟨(some 7), .move (.tmp 30), none, []⟩,
    ⟨(some 8), .move (.tmp 31), none, []⟩]) k5x20
def k5x18 : AC := .mask 7340057
def k5x17 : AC := .ops false [
    ⟨(some 40), .bin .other .add (.tmp 22) (.c (.int .i64 1)), none, []⟩,
    ⟨(some 22), .move (.tmp 40), none, []⟩]
def k5x14 : AC := .seq (.seq (.block 1 (.seq (.ops false [
     ⟨(some 24), .indexAddr 5 (.tmp 20) (.tmp 22), none, []⟩,
     ⟨(some 25), .load (.agg [(.int .i64), (.int .i64), (.int .i64), (.int .i64), (.int .i64)]) (.tmp 24), none, []⟩,
     ⟨(some 6), .allocL [(.int .i64 0), (.int .i64 0), (.int .i64 0), (.int .i64 0), (.int .i64 0)], none, []⟩,
     ⟨none, .store 5 (.tmp 6) (.tmp 25), none, []⟩]) k5x19)) k5x18) k5x17
def k5x13 : AC := .seq (.seq (.cond (.tmp 23)
   (.skip)
   (.seq (.mask 9) k5x16)) k5x15) k5x14
def k5x12 : AC := .seq (.ops false [
    ⟨(some 23), .bin .other .lss (.tmp 22) (.tmp 21), none, []⟩]) k5x13
def k5x11 : AC := .mask 9
def k5x10 : AC := .seq (.block 0 (.loop 7340057 9 k5x12)) k5x11
def k5x28 : AC := .ret
def k5x27 : AC := .seq (.mask 4) k5x28
def k5x26 : AC := .seq (.ops true [
    ⟨(some 46), .move (.tmp 10), none, []⟩,
    ⟨(some 47), .bin .other .eql (.tmp 46) (.c (.int .i64 0)), none, []⟩,
    ⟨(some 48), .move (.tmp 47), none, []⟩,
    ⟨(some 49), .move (.tmp 3), (some (48, true)), []⟩,
    ⟨(some 50), .call 18 [(.tmp 49)] [(.cell (.int .i64))] (.int .i64 0), (some (48, true)), []⟩,
    ⟨(some 51), .move (.tmp 9), (some (48, true)), []⟩,
    ⟨(some 52), .bin .other .eql (.tmp 50) (.tmp 51), (some (48, true)), []⟩,
    ⟨(some 53), .pick (.tmp 48) (.tmp 52) (.c (.bool false)), none, []⟩,
    ⟨(some 54), .move (.tmp 53), none, []⟩,
    ⟨(some 55), .move (.tmp 3), (some (54, true)), []⟩,
    ⟨(some 56), .call 19 [(.tmp 55)] [(.cell (.int .i64))] (.int .i64 0), (some (54, true)), []⟩,
    ⟨(some 57), .move (.tmp 0), (some (54, true)), []⟩,
    ⟨(some 58), .lenSl (.tmp 57), (some (54, true)), []⟩,
    ⟨(some 59), .bin .other .eql (.tmp 56) (.tmp 58), (some (54, true)), []⟩,
    ⟨(some 60), .pick (.tmp 54) (.tmp 59) (.c (.bool false)), none, []⟩,
    ⟨(some 2), .move (.tmp 60), none, []⟩]) k5x27
def k5x9 : AC := .seq (.ops false [
    ⟨(some 42), .move (.tmp 0), none, []⟩,
    ⟨(some 43), .call 13 [(.tmp 42)] [(.cell (.int .i64)), (.cell (.int .i64))] .opq, none, []⟩,
    ⟨(some 41), .move (.tmp 43), none, []⟩,
    ⟨(some 44), .extract (.tmp 41) 0, none, []⟩,
    ⟨(some 45), .extract (.tmp 41) 1, none, []⟩,
    ⟨(some 9), .move (.tmp 44), none, []⟩,
    ⟨(some 10), .move (.tmp 45), none, []⟩]) k5x26
def k5x8 : AC := .seq (.seq (.ops false [
    ⟨(some 20), .move (.tmp 0), none, []⟩,
    ⟨(some 21), .lenSl (.tmp 20), none, []⟩,
    ⟨(some 22), .move (.c (.int .i64 0)), none, []⟩]) k5x10) k5x9
def k5x7 : AC := .seq (.ops false [
    ⟨(some 4), .move (.c (.int .i64 (-1))), none, []⟩]) k5x8
def k5x2 : AC := .seq (.ops false [
    ⟨(some 18), .move (.tmp 0), none, []⟩,
    ⟨(some 19), .call 12 [(.tmp 18)] [(.cell .sl)] (.sl .nil 0), none, []⟩,
    ⟨(some 0), .move (.tmp 19), none, []⟩]) k5x7
def k5x1 : AC := .seq (.seq (.ops true [
    ⟨(some 12), .call 11 [] [(.cell .bool)] (.bool false), none, []⟩,
    ⟨(some 13), .un .not (.tmp 12), none, []⟩,
    ⟨(some 14), .move (.tmp 13), none, []⟩,
    ⟨(some 15), .move (.tmp 3), (some (14, false)), []⟩,
    ⟨(some 16), .bin .ptr .eql (.tmp 15) (.c (.ptr none)), (some (14, false)), []⟩,
    ⟨(some 17), .pick (.tmp 14) (.c (.bool true)) (.tmp 16), none, []⟩]) k5x3) k5x2
def k5x0 : AC := .seq (.ops false [
    ⟨(some 11), .call 16 [] [(.cell .ptr)] (.ptr none), none, []⟩,
    ⟨(some 3), .move (.tmp 11), none, []⟩]) k5x1
/-- provenance/provenancekeep4.PipeCycles -/
def c5 : AFn := ⟨61, [.tmp 2],
  .seq (.ops false [
    ⟨(some 2), .move (.c (.bool false)), none, []⟩]) k5x0⟩
def S5xr (b2 : Bool) (h : Heap) : St := ⟨(.any :: .any :: (.g [] true (.bool b2) :: (rep 58 []))), h⟩
def S5xe0 (s0 : SA) (n0 : Nat) (p3 : Option Ad) (h : Heap) : St := ⟨(.g [] true (.sl s0 n0) :: (.any :: .any :: (.g [] true (.ptr p3) :: (rep 57 [])))), h⟩
noncomputable def Q5x12 : Kont (AV × Heap) := (blockQ 0 (seqQ (evalE M C k5x11) (seqQ (evalE M C k5x9) (endQ [.tmp 2]))))
noncomputable def L5x12 (s0 : SA) (n0 : Nat) (p3 : Option Ad) (i4 : Int) (s20 : SA) (n20 : Nat) (i21 : Int) (i22 : Int) (h : Heap) (Q : Kont R) : Option R := loopE (evalE M C k5x12) 7340057 9 ⟨(.g [] true (.sl s0 n0) :: (.any :: .any :: (.g [] true (.ptr p3) :: (.g [] true (.int .i64 i4) :: (rep 15 (.g [] true (.sl s20 n20) :: (.g [] true (.int .i64 i21) :: (.g [] true (.int .i64 i22) :: (rep 38 []))))))))), h⟩ Q
theorem r5 (s0 : SA) (n0 : Nat) (h : Heap) : runE M C c5 [(.sl s0 n0)] h = (
  (C 16 [] h).bind fun r11 =>
  gP (some r11.1) true fun p11 =>
  (C 11 [] r11.2).bind fun r12 =>
  gB (some r12.1) true fun b12 =>
  letK ((Option.isNone p11) : Bool) fun b16 =>
  letK ((if (!b12) = true then true else b16) : Bool) fun b17 =>
  if b17 = true then
    (
    some ((.bool false), r12.2)
    )
  else
    (
    (C 12 [(.sl s0 n0)] r12.2).bind fun r19 =>
    gL (some r19.1) true fun s19 n19 =>
    L5x12 M C s19 n19 p11 (-1) s19 n19 ((n19 : Nat) : Int) 0 r19.2 (Q5x12 M C)
    )
  ) := by kernel_rfl
theorem cf5 : cFn Try.prog 5 = some c5 := by kernel_rfl
theorem e5 (s0 : SA) (n0 : Nat) (h : Heap) : E 5 [(.sl s0 n0)] h = (
  (E 16 [] h).bind fun r11 =>
  gP (some r11.1) true fun p11 =>
  (E 11 [] r11.2).bind fun r12 =>
  gB (some r12.1) true fun b12 =>
  letK ((Option.isNone p11) : Bool) fun b16 =>
  letK ((if (!b12) = true then true else b16) : Bool) fun b17 =>
  if b17 = true then
    (
    some ((.bool false), r12.2)
    )
  else
    (
    (E 12 [(.sl s0 n0)] r12.2).bind fun r19 =>
    gL (some r19.1) true fun s19 n19 =>
    L5x12 mk0 E s19 n19 p11 (-1) s19 n19 ((n19 : Nat) : Int) 0 r19.2 (Q5x12 mk0 E)
    )
  ) := (EV_eq (P := Try.prog) (T := T0) rfl cf5 [(.sl s0 n0)] h).trans (r5 mk0 E s0 n0 h)
theorem L5x12xaux (s0 : SA) (n0 : Nat) (p3 : Option Ad) (i4 : Int) (s20 : SA) (n20 : Nat) (i21 : Int) (i22 : Int) (h : Heap) (Q : Kont R) : (restrF 7340057 ⟨(.g [] true (.sl s0 n0) :: (.any :: .any :: (.g [] true (.ptr p3) :: (.g [] true (.int .i64 i4) :: (rep 15 (.g [] true (.sl s20 n20) :: (.g [] true (.int .i64 i21) :: (.g [] true (.int .i64 i22) :: (rep 38 []))))))))), h⟩ fun σ => evalE M C k5x12 σ (roundQ M C k5x12 7340057 9 Q)) = (
  letK ((decide ((i22 : Int) < i21)) : Bool) fun b23 =>
  if b23 = true then
    (
    chk (true = true → (0 : Int) ≤ i22 ∧ (i22 : Int) < ((n20 : Nat) : Int)) <|
    atP (adP s20) true fun a24 =>
    gCells (ldN h (Ad.add a24 (Int.toNat i22 * 5)) 5) true fun l25 =>
    gI .i64 (l25[0]?) true fun i25x0 =>
    gI .i64 (l25[1]?) true fun i25x1 =>
    gI .i64 (l25[2]?) true fun i25x2 =>
    gI .i64 (l25[3]?) true fun i25x3 =>
    gI .i64 (l25[4]?) true fun i25x4 =>
    (C 17 [(.ptr p3), (.agg [(.int .i64 i25x0), (.int .i64 i25x1), (.int .i64 i25x2), (.int .i64 i25x3), (.int .i64 i25x4)]), (.int .i64 0)] h).bind fun r29 =>
    gT 2 r29.1 true fun u29 =>
    gI .i64 (some (List.getD u29 0 .opq)) true fun i29x0 =>
    gI .i64 (some (List.getD u29 1 .opq)) true fun i29x1 =>
    letK ((!decide ((i29x1 : Int) = 0)) : Bool) fun b33 =>
    letK ((decide ((i29x0 : Int) ≤ i4)) : Bool) fun b37 =>
    letK ((if b33 = true then true else b37) : Bool) fun b38 =>
    if b38 = true then
      (
      Q .ret (S5xr false r29.2)
      )
    else
      (
      letK ((IntKind.wrap .i64 (i22 + 1)) : Int) fun i40 =>
      L5x12 M C s0 n0 p3 i29x0 s20 n20 i21 i40 r29.2 Q
      )
    )
  else
    (
    Q (.exit 0) (S5xe0 s0 n0 p3 h)
    )
  ) := by kernel_rfl
theorem L5x12xeq (s0 : SA) (n0 : Nat) (p3 : Option Ad) (i4 : Int) (s20 : SA) (n20 : Nat) (i21 : Int) (i22 : Int) (h : Heap) (Q : Kont R) : L5x12 mk0 C s0 n0 p3 i4 s20 n20 i21 i22 h Q = (
  letK ((decide ((i22 : Int) < i21)) : Bool) fun b23 =>
  if b23 = true then
    (
    chk (true = true → (0 : Int) ≤ i22 ∧ (i22 : Int) < ((n20 : Nat) : Int)) <|
    atP (adP s20) true fun a24 =>
    gCells (ldN h (Ad.add a24 (Int.toNat i22 * 5)) 5) true fun l25 =>
    gI .i64 (l25[0]?) true fun i25x0 =>
    gI .i64 (l25[1]?) true fun i25x1 =>
    gI .i64 (l25[2]?) true fun i25x2 =>
    gI .i64 (l25[3]?) true fun i25x3 =>
    gI .i64 (l25[4]?) true fun i25x4 =>
    (C 17 [(.ptr p3), (.agg [(.int .i64 i25x0), (.int .i64 i25x1), (.int .i64 i25x2), (.int .i64 i25x3), (.int .i64 i25x4)]), (.int .i64 0)] h).bind fun r29 =>
    gT 2 r29.1 true fun u29 =>
    gI .i64 (some (List.getD u29 0 .opq)) true fun i29x0 =>
    gI .i64 (some (List.getD u29 1 .opq)) true fun i29x1 =>
    letK ((!decide ((i29x1 : Int) = 0)) : Bool) fun b33 =>
    letK ((decide ((i29x0 : Int) ≤ i4)) : Bool) fun b37 =>
    letK ((if b33 = true then true else b37) : Bool) fun b38 =>
    if b38 = true then
      (
      Q .ret (S5xr false r29.2)
      )
    else
      (
      letK ((IntKind.wrap .i64 (i22 + 1)) : Int) fun i40 =>
      L5x12 mk0 C s0 n0 p3 i29x0 s20 n20 i21 i40 r29.2 Q
      )
    )
  else
    (
    Q (.exit 0) (S5xe0 s0 n0 p3 h)
    )
  ) := loop_eqn C k5x12 7340057 9 (.g [] true (.sl s0 n0) :: (.any :: .any :: (.g [] true (.ptr p3) :: (.g [] true (.int .i64 i4) :: (rep 15 (.g [] true (.sl s20 n20) :: (.g [] true (.int .i64 i21) :: (.g [] true (.int .i64 i22) :: (rep 38 []))))))))) h Q (by kernel_rfl) (L5x12xaux mk0 C s0 n0 p3 i4 s20 n20 i21 i22 h Q)
theorem X5x12xr (b2 : Bool) (h : Heap) : Q5x12 M C .ret (S5xr b2 h) = (
  some ((.bool b2), h)
  ) := by kernel_rfl
theorem X5x12xe0 (s0 : SA) (n0 : Nat) (p3 : Option Ad) (h : Heap) : Q5x12 M C (.exit 0) (S5xe0 s0 n0 p3 h) = (
  (C 13 [(.sl s0 n0)] h).bind fun r43 =>
  gT 2 r43.1 true fun u43 =>
  gI .i64 (some (List.getD u43 0 .opq)) true fun i43x0 =>
  gI .i64 (some (List.getD u43 1 .opq)) true fun i43x1 =>
  letK ((decide ((i43x1 : Int) = 0)) : Bool) fun b47 =>
  (callO b47 (C 18 [(.ptr p3)] r43.2) (.int .i64 0) r43.2).bind fun r50 =>
  gI .i64 (some r50.1) b47 fun i50 =>
  letK ((decide ((i50 : Int) = i43x0)) : Bool) fun b52 =>
  letK ((if b47 = true then b52 else false) : Bool) fun b53 =>
  (callO b53 (C 19 [(.ptr p3)] r50.2) (.int .i64 0) r50.2).bind fun r56 =>
  gI .i64 (some r56.1) b53 fun i56 =>
  letK ((decide ((i56 : Int) = ((n0 : Nat) : Int))) : Bool) fun b59 =>
  letK ((if b53 = true then b59 else false) : Bool) fun b60 =>
  some ((.bool b60), r56.2)
  ) := by kernel_rfl
def k6x6 : AC := .ret
def k6x5 : AC := .seq (.mask 16) k6x6
def k6x4 : AC := .mask 99
def k6x3 : AC := .seq (.cond (.tmp 24)
   (.seq (.ops false [
      ⟨(some 4), .move (.c (.bool false)), none, []⟩]) k6x5)
   (.skip)) k6x4
def k6x16 : AC := .exit 0
def k6x15 : AC := .mask 30064771170
def k6x24 : AC := .ret
def k6x23 : AC := .seq (.mask 16) k6x24
def k6x22 : AC := .mask 30064771554
def k6x21 : AC := .seq (.cond (.tmp 46)
   (.seq (.ops false [
      ⟨(some 4), .move (.c (.bool false)), none, []⟩]) k6x23)
   (.skip)) k6x22
def k6x30 : AC := .ret
def k6x29 : AC := .seq (.mask 16) k6x30
def k6x28 : AC := .mask 30064771170
def k6x27 : AC := .seq (.cond (.tmp 73)
   (.seq (.ops false [
      ⟨(some 4), .move (.c (.bool false)), none, []⟩]) k6x29)
   (.skip)) k6x28
def k6x26 : AC := .seq (.ops true [
    ⟨(some 63), .move (.tmp 10), none, []⟩,
    ⟨(some 64), .bin .other .neq (.tmp 63) (.c (.int .i64 0)), none, []⟩,
    ⟨(some 65), .move (.tmp 64), none, []⟩,
    ⟨(some 66), .move (.tmp 12), (some (65, false)), []⟩,
    ⟨(some 67), .bin .other .neq (.tmp 66) (.c (.int .i64 0)), (some (65, false)), []⟩,
    ⟨(some 68), .pick (.tmp 65) (.c (.bool true)) (.tmp 67), none, []⟩,
    ⟨(some 69), .move (.tmp 68), none, []⟩,
    ⟨(some 70), .move (.tmp 9), (some (69, false)), []⟩,
    ⟨(some 71), .move (.tmp 11), (some (69, false)), []⟩,
    ⟨(some 72), .bin .other .neq (.tmp 70) (.tmp 71), (some (69, false)), []⟩,
    ⟨(some 73), .pick (.tmp 69) (.c (.bool true)) (.tmp 72), none, []⟩]) k6x27
def k6x25 : AC := .seq (.ops false [
    ⟨(some 56), .move (.tmp 6), none, []⟩,
    ⟨(some 57), .load (.agg [(.int .i64), (.int .i64), (.int .i64), (.int .i64), (.int .i64)]) (.tmp 8), none, []⟩,
    ⟨(some 58), .move (.tmp 7), none, []⟩,
    ⟨(some 59), .bin .other .rem (.tmp 58) (.c (.int .i64 3)), none, []⟩,
    ⟨(some 60), .call 17 [(.tmp 56), (.tmp 57), (.tmp 59)] [(.cell (.int .i64)), (.cell (.int .i64))] .opq, none, []⟩,
    ⟨(some 55), .move (.tmp 60), none, []⟩,
    ⟨(some 61), .extract (.tmp 55) 0, none, []⟩,
    ⟨(some 62), .extract (.tmp 55) 1, none, []⟩,
    ⟨(some 11), .move (.tmp 61), none, []⟩,
    ⟨(some 12), .move (.tmp 62), none, []⟩]) k6x26
def k6x20 : AC := .seq (.ops false [
    ⟨(some 48), .move (.tmp 5), none, []⟩,
    ⟨(some 49), .load (.agg [(.int .i64), (.int .i64), (.int .i64), (.int .i64), (.int .i64)]) (.tmp 8), none, []⟩,
    ⟨(some 50), .move (.tmp 7), none, []⟩,
    ⟨(some 51), .bin .other .rem (.tmp 50) (.c (.int .i64 3)), none, []⟩,
    ⟨(some 52), .call 17 [(.tmp 48), (.tmp 49), (.tmp 51)] [(.cell (.int .i64)), (.cell (.int .i64))] .opq, none, []⟩,
    ⟨(some 47), .move (.tmp 52), none, []⟩,
    ⟨(some 53), .extract (.tmp 47) 0, none, []⟩,
    ⟨(some 54), .extract (.tmp 47) 1, none, []⟩,
    ⟨(some 9), .move (.tmp 53), none, []⟩,
    ⟨(some 10), .move (.tmp 54), none, []⟩]) k6x25
def k6x19 : AC := .seq (.seq (.ops true [
    ⟨(some 39), .move (.tmp 7), none, []⟩,
    ⟨(some 40), .move (.tmp 1), none, []⟩,
    ⟨(some 41), .bin .other .eql (.tmp 39) (.tmp 40), none, []⟩,
    ⟨(some 42), .move (.tmp 41), none, []⟩,
    ⟨(some 43), .move (.tmp 5), (some (42, true)), []⟩,
    ⟨(some 44), .call 20 [(.tmp 43), (.c (.int .i64 0))] [(.cell (.int .i64))] (.int .i64 0), (some (42, true)), []⟩,
    ⟨(some 45), .bin .other .neq (.tmp 44) (.c (.int .i64 0)), (some (42, true)), []⟩,
    ⟨(some 46), .pick (.tmp 42) (.tmp 45) (.c (.bool false)), none, []⟩]) k6x21) k6x20
def k6x18 : AC := .mask 30064771170
def k6x17 : AC := .ops false [
    ⟨(some 74), .bin .other .add (.tmp 34) (.c (.int .i64 1)), none, []⟩,
    ⟨(some 34), .move (.tmp 74), none, []⟩]
def k6x14 : AC := .seq (.seq (.block 1 (.seq (.ops false [
     ⟨(some 36), .move (.tmp 34), none, []⟩,
     ⟨(some 37), .indexAddr 5 (.tmp 32) (.tmp 34), none, []⟩,
     ⟨(some 38), .load (.agg [(.int .i64), (.int .i64), (.int .i64), (.int .i64), (.int .i64)]) (.tmp 37), none, []⟩,
     ⟨(some 8), .allocL [(.int .i64 0), (.int .i64 0), (.int .i64 0), (.int .i64 0), (.int .i64 0)], none, []⟩,
     ⟨(some 7), .move (.tmp 36), none, []⟩,
     ⟨none, .store 5 (.tmp 8) (.tmp 38), none, []⟩]) k6x19)) k6x18) k6x17
def k6x13 : AC := .seq (.seq (.cond (.tmp 35)
   (.skip)
   (.seq (.mask 96) k6x16)) k6x15) k6x14
def k6x12 : AC := .seq (.ops false [
    ⟨(some 35), .bin .other .lss (.tmp 34) (.tmp 33), none, []⟩]) k6x13
def k6x11 : AC := .mask 96
def k6x10 : AC := .seq (.block 0 (.loop 30064771170 96 k6x12)) k6x11
def k6x32 : AC := .ret
def k6x31 : AC := .seq (.mask 16) k6x32
def k6x9 : AC := .seq (.ops false [
    ⟨(some 75), .move (.tmp 5), none, []⟩,
    ⟨(some 76), .call 18 [(.tmp 75)] [(.cell (.int .i64))] (.int .i64 0), none, []⟩,
    ⟨(some 77), .move (.tmp 6), none, []⟩,
    ⟨(some 78), .call 18 [(.tmp 77)] [(.cell (.int .i64))] (.int .i64 0), none, []⟩,
    ⟨(some 79), .bin .other .eql (.tmp 76) (.tmp 78), none, []⟩,
    ⟨(some 4), .move (.tmp 79), none, []⟩]) k6x31
def k6x8 : AC := .seq (.seq (.ops false [
    ⟨(some 32), .move (.tmp 0), none, []⟩,
    ⟨(some 33), .lenSl (.tmp 32), none, []⟩,
    ⟨(some 34), .move (.c (.int .i64 0)), none, []⟩]) k6x10) k6x9
def k6x7 : AC := .seq (.ops false [
    ⟨(some 27), .move (.tmp 1), none, []⟩,
    ⟨(some 28), .move (.tmp 0), none, []⟩,
    ⟨(some 29), .lenSl (.tmp 28), none, []⟩,
    ⟨(some 30), .bin .other .add (.tmp 29) (.c (.int .i64 1)), none, []⟩,
    ⟨(some 31), .call 14 [(.tmp 27), (.tmp 30)] [(.cell (.int .i64))] (.int .i64 0), none, []⟩,
    ⟨(some 1), .move (.tmp 31), none, []⟩]) k6x8
def k6x2 : AC := .seq (.ops false [
    ⟨(some 25), .move (.tmp 0), none, []⟩,
    ⟨(some 26), .call 12 [(.tmp 25)] [(.cell .sl)] (.sl .nil 0), none, []⟩,
    ⟨(some 0), .move (.tmp 26), none, []⟩]) k6x7
def k6x1 : AC := .seq (.seq (.ops true [
    ⟨(some 15), .call 11 [] [(.cell .bool)] (.bool false), none, []⟩,
    ⟨(some 16), .un .not (.tmp 15), none, []⟩,
    ⟨(some 17), .move (.tmp 16), none, []⟩,
    ⟨(some 18), .move (.tmp 5), (some (17, false)), []⟩,
    ⟨(some 19), .bin .ptr .eql (.tmp 18) (.c (.ptr none)), (some (17, false)), []⟩,
    ⟨(some 20), .pick (.tmp 17) (.c (.bool true)) (.tmp 19), none, []⟩,
    ⟨(some 21), .move (.tmp 20), none, []⟩,
    ⟨(some 22), .move (.tmp 6), (some (21, false)), []⟩,
    ⟨(some 23), .bin .ptr .eql (.tmp 22) (.c (.ptr none)), (some (21, false)), []⟩,
    ⟨(some 24), .pick (.tmp 21) (.c (.bool true)) (.tmp 23), none, []⟩]) k6x3) k6x2
def k6x0 : AC := .seq (.ops false [
    ⟨(some 13), .call 16 [] [(.cell .ptr)] (.ptr none), none, []⟩,
    ⟨(some 14), .call 16 [] [(.cell .ptr)] (.ptr none), none, []⟩,
    ⟨(some 5), .move (.tmp 13), none, []⟩,
    ⟨(some 6), .move (.tmp 14), none, []⟩]) k6x1
/-- provenance/provenancekeep4.PipeRests -/
def c6 : AFn := ⟨80, [.tmp 4],
  .seq (.ops false [
    ⟨(some 4), .move (.c (.bool false)), none, []⟩]) k6x0⟩
def S6xr (b4 : Bool) (h : Heap) : St := ⟨(rep 4 (.g [] true (.bool b4) :: (rep 75 []))), h⟩
def S6xe0 (p5 : Option Ad) (p6 : Option Ad) (h : Heap) : St := ⟨(rep 5 (.g [] true (.ptr p5) :: (.g [] true (.ptr p6) :: (rep 73 [])))), h⟩
noncomputable def Q6x12 : Kont (AV × Heap) := (blockQ 0 (seqQ (evalE M C k6x11) (seqQ (evalE M C k6x9) (endQ [.tmp 4]))))
noncomputable def L6x12 (i1 : Int) (p5 : Option Ad) (p6 : Option Ad) (s32 : SA) (n32 : Nat) (i33 : Int) (i34 : Int) (h : Heap) (Q : Kont R) : Option R := loopE (evalE M C k6x12) 30064771170 96 ⟨(.any :: (.g [] true (.int .i64 i1) :: (rep 3 (.g [] true (.ptr p5) :: (.g [] true (.ptr p6) :: (rep 25 (.g [] true (.sl s32 n32) :: (.g [] true (.int .i64 i33) :: (.g [] true (.int .i64 i34) :: (rep 45 [])))))))))), h⟩ Q
theorem r6 (s0 : SA) (n0 : Nat) (i1 : Int) (h : Heap) : runE M C c6 [(.sl s0 n0), (.int .i64 i1)] h = (
  (C 16 [] h).bind fun r13 =>
  gP (some r13.1) true fun p13 =>
  (C 16 [] r13.2).bind fun r14 =>
  gP (some r14.1) true fun p14 =>
  (C 11 [] r14.2).bind fun r15 =>
  gB (some r15.1) true fun b15 =>
  letK ((Option.isNone p13) : Bool) fun b19 =>
  letK ((if (!b15) = true then true else b19) : Bool) fun b20 =>
  letK ((Option.isNone p14) : Bool) fun b23 =>
  letK ((if b20 = true then true else b23) : Bool) fun b24 =>
  if b24 = true then
    (
    some ((.bool false), r15.2)
    )
  else
    (
    (C 12 [(.sl s0 n0)] r15.2).bind fun r26 =>
    gL (some r26.1) true fun s26 n26 =>
    letK ((IntKind.wrap .i64 (((n26 : Nat) : Int) + 1)) : Int) fun i30 =>
    (C 14 [(.int .i64 i1), (.int .i64 i30)] r26.2).bind fun r31 =>
    gI .i64 (some r31.1) true fun i31 =>
    L6x12 M C i31 p13 p14 s26 n26 ((n26 : Nat) : Int) 0 r31.2 (Q6x12 M C)
    )
  ) := by kernel_rfl
theorem cf6 : cFn Try.prog 6 = some c6 := by kernel_rfl
theorem e6 (s0 : SA) (n0 : Nat) (i1 : Int) (h : Heap) : E 6 [(.sl s0 n0), (.int .i64 i1)] h = (
  (E 16 [] h).bind fun r13 =>
  gP (some r13.1) true fun p13 =>
  (E 16 [] r13.2).bind fun r14 =>
  gP (some r14.1) true fun p14 =>
  (E 11 [] r14.2).bind fun r15 =>
  gB (some r15.1) true fun b15 =>
  letK ((Option.isNone p13) : Bool) fun b19 =>
  letK ((if (!b15) = true then true else b19) : Bool) fun b20 =>
  letK ((Option.isNone p14) : Bool) fun b23 =>
  letK ((if b20 = true then true else b23) : Bool) fun b24 =>
  if b24 = true then
    (
    some ((.bool false), r15.2)
    )
  else
    (
    (E 12 [(.sl s0 n0)] r15.2).bind fun r26 =>
    gL (some r26.1) true fun s26 n26 =>
    letK ((IntKind.wrap .i64 (((n26 : Nat) : Int) + 1)) : Int) fun i30 =>
    (E 14 [(.int .i64 i1), (.int .i64 i30)] r26.2).bind fun r31 =>
    gI .i64 (some r31.1) true fun i31 =>
    L6x12 mk0 E i31 p13 p14 s26 n26 ((n26 : Nat) : Int) 0 r31.2 (Q6x12 mk0 E)
    )
  ) := (EV_eq (P := Try.prog) (T := T0) rfl cf6 [(.sl s0 n0), (.int .i64 i1)] h).trans (r6 mk0 E s0 n0 i1 h)
theorem L6x12xaux (i1 : Int) (p5 : Option Ad) (p6 : Option Ad) (s32 : SA) (n32 : Nat) (i33 : Int) (i34 : Int) (h : Heap) (Q : Kont R) : (restrF 30064771170 ⟨(.any :: (.g [] true (.int .i64 i1) :: (rep 3 (.g [] true (.ptr p5) :: (.g [] true (.ptr p6) :: (rep 25 (.g [] true (.sl s32 n32) :: (.g [] true (.int .i64 i33) :: (.g [] true (.int .i64 i34) :: (rep 45 [])))))))))), h⟩ fun σ => evalE M C k6x12 σ (roundQ M C k6x12 30064771170 96 Q)) = (
  letK ((decide ((i34 : Int) < i33)) : Bool) fun b35 =>
  if b35 = true then
    (
    chk (true = true → (0 : Int) ≤ i34 ∧ (i34 : Int) < ((n32 : Nat) : Int)) <|
    atP (adP s32) true fun a37 =>
    gCells (ldN h (Ad.add a37 (Int.toNat i34 * 5)) 5) true fun l38 =>
    gI .i64 (l38[0]?) true fun i38x0 =>
    gI .i64 (l38[1]?) true fun i38x1 =>
    gI .i64 (l38[2]?) true fun i38x2 =>
    gI .i64 (l38[3]?) true fun i38x3 =>
    gI .i64 (l38[4]?) true fun i38x4 =>
    letK ((decide ((i34 : Int) = i1)) : Bool) fun b41 =>
    (callO b41 (C 20 [(.ptr p5), (.int .i64 0)] h) (.int .i64 0) h).bind fun r44 =>
    gI .i64 (some r44.1) b41 fun i44 =>
    letK ((!decide ((i44 : Int) = 0)) : Bool) fun b45 =>
    letK ((if b41 = true then b45 else false) : Bool) fun b46 =>
    if b46 = true then
      (
      Q .ret (S6xr false r44.2)
      )
    else
      (
      letK ((Int.tmod i34 3) : Int) fun i51 =>
      (C 17 [(.ptr p5), (.agg [(.int .i64 i38x0), (.int .i64 i38x1), (.int .i64 i38x2), (.int .i64 i38x3), (.int .i64 i38x4)]), (.int .i64 i51)] r44.2).bind fun r52 =>
      gT 2 r52.1 true fun u52 =>
      gI .i64 (some (List.getD u52 0 .opq)) true fun i52x0 =>
      gI .i64 (some (List.getD u52 1 .opq)) true fun i52x1 =>
      letK ((Int.tmod i34 3) : Int) fun i59 =>
      (C 17 [(.ptr p6), (.agg [(.int .i64 i38x0), (.int .i64 i38x1), (.int .i64 i38x2), (.int .i64 i38x3), (.int .i64 i38x4)]), (.int .i64 i59)] r52.2).bind fun r60 =>
      gT 2 r60.1 true fun u60 =>
      gI .i64 (some (List.getD u60 0 .opq)) true fun i60x0 =>
      gI .i64 (some (List.getD u60 1 .opq)) true fun i60x1 =>
      letK ((!decide ((i52x1 : Int) = 0)) : Bool) fun b64 =>
      letK ((!decide ((i60x1 : Int) = 0)) : Bool) fun b67 =>
      letK ((if b64 = true then true else b67) : Bool) fun b68 =>
      letK ((!decide ((i52x0 : Int) = i60x0)) : Bool) fun b72 =>
      letK ((if b68 = true then true else b72) : Bool) fun b73 =>
      if b73 = true then
        (
        Q .ret (S6xr false r60.2)
        )
      else
        (
        letK ((IntKind.wrap .i64 (i34 + 1)) : Int) fun i74 =>
        L6x12 M C i1 p5 p6 s32 n32 i33 i74 r60.2 Q
        )
      )
    )
  else
    (
    Q (.exit 0) (S6xe0 p5 p6 h)
    )
  ) := by kernel_rfl
theorem L6x12xeq (i1 : Int) (p5 : Option Ad) (p6 : Option Ad) (s32 : SA) (n32 : Nat) (i33 : Int) (i34 : Int) (h : Heap) (Q : Kont R) : L6x12 mk0 C i1 p5 p6 s32 n32 i33 i34 h Q = (
  letK ((decide ((i34 : Int) < i33)) : Bool) fun b35 =>
  if b35 = true then
    (
    chk (true = true → (0 : Int) ≤ i34 ∧ (i34 : Int) < ((n32 : Nat) : Int)) <|
    atP (adP s32) true fun a37 =>
    gCells (ldN h (Ad.add a37 (Int.toNat i34 * 5)) 5) true fun l38 =>
    gI .i64 (l38[0]?) true fun i38x0 =>
    gI .i64 (l38[1]?) true fun i38x1 =>
    gI .i64 (l38[2]?) true fun i38x2 =>
    gI .i64 (l38[3]?) true fun i38x3 =>
    gI .i64 (l38[4]?) true fun i38x4 =>
    letK ((decide ((i34 : Int) = i1)) : Bool) fun b41 =>
    (callO b41 (C 20 [(.ptr p5), (.int .i64 0)] h) (.int .i64 0) h).bind fun r44 =>
    gI .i64 (some r44.1) b41 fun i44 =>
    letK ((!decide ((i44 : Int) = 0)) : Bool) fun b45 =>
    letK ((if b41 = true then b45 else false) : Bool) fun b46 =>
    if b46 = true then
      (
      Q .ret (S6xr false r44.2)
      )
    else
      (
      letK ((Int.tmod i34 3) : Int) fun i51 =>
      (C 17 [(.ptr p5), (.agg [(.int .i64 i38x0), (.int .i64 i38x1), (.int .i64 i38x2), (.int .i64 i38x3), (.int .i64 i38x4)]), (.int .i64 i51)] r44.2).bind fun r52 =>
      gT 2 r52.1 true fun u52 =>
      gI .i64 (some (List.getD u52 0 .opq)) true fun i52x0 =>
      gI .i64 (some (List.getD u52 1 .opq)) true fun i52x1 =>
      letK ((Int.tmod i34 3) : Int) fun i59 =>
      (C 17 [(.ptr p6), (.agg [(.int .i64 i38x0), (.int .i64 i38x1), (.int .i64 i38x2), (.int .i64 i38x3), (.int .i64 i38x4)]), (.int .i64 i59)] r52.2).bind fun r60 =>
      gT 2 r60.1 true fun u60 =>
      gI .i64 (some (List.getD u60 0 .opq)) true fun i60x0 =>
      gI .i64 (some (List.getD u60 1 .opq)) true fun i60x1 =>
      letK ((!decide ((i52x1 : Int) = 0)) : Bool) fun b64 =>
      letK ((!decide ((i60x1 : Int) = 0)) : Bool) fun b67 =>
      letK ((if b64 = true then true else b67) : Bool) fun b68 =>
      letK ((!decide ((i52x0 : Int) = i60x0)) : Bool) fun b72 =>
      letK ((if b68 = true then true else b72) : Bool) fun b73 =>
      if b73 = true then
        (
        Q .ret (S6xr false r60.2)
        )
      else
        (
        letK ((IntKind.wrap .i64 (i34 + 1)) : Int) fun i74 =>
        L6x12 mk0 C i1 p5 p6 s32 n32 i33 i74 r60.2 Q
        )
      )
    )
  else
    (
    Q (.exit 0) (S6xe0 p5 p6 h)
    )
  ) := loop_eqn C k6x12 30064771170 96 (.any :: (.g [] true (.int .i64 i1) :: (rep 3 (.g [] true (.ptr p5) :: (.g [] true (.ptr p6) :: (rep 25 (.g [] true (.sl s32 n32) :: (.g [] true (.int .i64 i33) :: (.g [] true (.int .i64 i34) :: (rep 45 [])))))))))) h Q (by kernel_rfl) (L6x12xaux mk0 C i1 p5 p6 s32 n32 i33 i34 h Q)
theorem X6x12xr (b4 : Bool) (h : Heap) : Q6x12 M C .ret (S6xr b4 h) = (
  some ((.bool b4), h)
  ) := by kernel_rfl
theorem X6x12xe0 (p5 : Option Ad) (p6 : Option Ad) (h : Heap) : Q6x12 M C (.exit 0) (S6xe0 p5 p6 h) = (
  (C 18 [(.ptr p5)] h).bind fun r76 =>
  gI .i64 (some r76.1) true fun i76 =>
  (C 18 [(.ptr p6)] r76.2).bind fun r78 =>
  gI .i64 (some r78.1) true fun i78 =>
  letK ((decide ((i76 : Int) = i78)) : Bool) fun b79 =>
  some ((.bool b79), r78.2)
  ) := by kernel_rfl
def k7x6 : AC := .ret
def k7x5 : AC := .seq (.mask 64) k7x6
def k7x4 : AC := .mask 135
def k7x3 : AC := .seq (.cond (.tmp 20)
   (.seq (.ops false [
      ⟨(some 6), .move (.c (.bool false)), none, []⟩]) k7x5)
   (.skip)) k7x4
def k7x14 : AC := .exit 0
def k7x13 : AC := .mask 29360262
def k7x21 : AC := .join 29361798
def k7x20 : AC := .seq (.cond (.tmp 32)
   (.ops false [
      ⟨(some 33), .move (.tmp 1), none, []⟩,
      ⟨(some 34), .move (.tmp 8), none, []⟩,
      ⟨(some 35), .indexAddr 1 (.tmp 33) (.tmp 34), none, []⟩,
      ⟨(some 36), .load (.cell (.int .i64)) (.tmp 35), none, []⟩,
      ⟨(some 37), .call 14 [(.tmp 36), (.c (.int .i64 20))] [(.cell (.int .i64))] (.int .i64 0), none, []⟩,
      ⟨(some 10), .move (.tmp 37), none, []⟩])
   (.skip)) k7x21
def k7x27 : AC := .ret
def k7x26 : AC := .seq (.mask 64) k7x27
def k7x25 : AC := .mask 29360262
def k7x24 : AC := .seq (.cond (.tmp 46)
   (.seq (.ops false [
      ⟨(some 6), .move (.c (.bool false)), none, []⟩]) k7x26)
   (.skip)) k7x25
def k7x23 : AC := .seq (.ops false [
    ⟨(some 45), .move (.tmp 12), none, []⟩,
    ⟨(some 46), .bin .other .neq (.tmp 45) (.c (.int .i64 0)), none, []⟩]) k7x24
def k7x19 : AC := .seq (.ops false [
    ⟨(some 39), .move (.tmp 7), none, []⟩,
    ⟨(some 40), .load (.agg [(.int .i64), (.int .i64), (.int .i64), (.int .i64), (.int .i64)]) (.tmp 9), none, []⟩,
    ⟨(some 41), .move (.tmp 10), none, []⟩,
    ⟨(some 42), .call 17 [(.tmp 39), (.tmp 40), (.tmp 41)] [(.cell (.int .i64)), (.cell (.int .i64))] .opq, none, []⟩,
    ⟨(some 38), .move (.tmp 42), none, []⟩,
    ⟨(some 43), .extract (.tmp 38) 0, none, []⟩,
    ⟨(some 44), .extract (.tmp 38) 1, none, []⟩,
    ⟨(some 11), .move (.tmp 43), none, []⟩,
    ⟨(some 12), .move (.tmp 44), none, []⟩]) k7x23
def k7x18 : AC := .seq (.seq (.ops false [
    ⟨(some 29), .move (.tmp 8), none, []⟩,
    ⟨(some 30), .move (.tmp 1), none, []⟩,
    ⟨(some 31), .lenSl (.tmp 30), none, []⟩,
    ⟨(some 32), .bin .other .lss (.tmp 29) (.tmp 31), none, []⟩]) k7x20) k7x19
def k7x17 : AC := .seq (.ops false [
    ⟨(some 10), .move (.c (.int .i64 0)), none, []⟩]) k7x18
def k7x16 : AC := .mask 29360262
def k7x15 : AC := .ops false [
    ⟨(some 47), .bin .other .add (.tmp 24) (.c (.int .i64 1)), none, []⟩,
    ⟨(some 24), .move (.tmp 47), none, []⟩]
def k7x12 : AC := .seq (.seq (.block 1 (.seq (.ops false [
     ⟨(some 26), .move (.tmp 24), none, []⟩,
     ⟨(some 27), .indexAddr 5 (.tmp 22) (.tmp 24), none, []⟩,
     ⟨(some 28), .load (.agg [(.int .i64), (.int .i64), (.int .i64), (.int .i64), (.int .i64)]) (.tmp 27), none, []⟩,
     ⟨(some 9), .allocL [(.int .i64 0), (.int .i64 0), (.int .i64 0), (.int .i64 0), (.int .i64 0)], none, []⟩,
     ⟨(some 8), .move (.tmp 26), none, []⟩,
     ⟨none, .store 5 (.tmp 9) (.tmp 28), none, []⟩]) k7x17)) k7x16) k7x15
def k7x11 : AC := .seq (.seq (.cond (.tmp 25)
   (.skip)
   (.seq (.mask 132) k7x14)) k7x13) k7x12
def k7x10 : AC := .seq (.ops false [
    ⟨(some 25), .bin .other .lss (.tmp 24) (.tmp 23), none, []⟩]) k7x11
def k7x9 : AC := .mask 132
def k7x8 : AC := .seq (.block 0 (.loop 29360262 132 k7x10)) k7x9
def k7x34 : AC := .ret
def k7x33 : AC := .seq (.mask 64) k7x34
def k7x32 : AC := .mask 8324
def k7x31 : AC := .seq (.cond (.tmp 60)
   (.seq (.ops false [
      ⟨(some 6), .move (.c (.bool false)), none, []⟩]) k7x33)
   (.skip)) k7x32
def k7x36 : AC := .ret
def k7x35 : AC := .seq (.mask 64) k7x36
def k7x30 : AC := .seq (.ops true [
    ⟨(some 61), .move (.tmp 7), none, []⟩,
    ⟨(some 62), .call 18 [(.tmp 61)] [(.cell (.int .i64))] (.int .i64 0), none, []⟩,
    ⟨(some 63), .move (.tmp 13), none, []⟩,
    ⟨(some 64), .bin .other .geq (.tmp 62) (.tmp 63), none, []⟩,
    ⟨(some 65), .move (.tmp 64), none, []⟩,
    ⟨(some 66), .move (.tmp 7), (some (65, true)), []⟩,
    ⟨(some 67), .call 18 [(.tmp 66)] [(.cell (.int .i64))] (.int .i64 0), (some (65, true)), []⟩,
    ⟨(some 68), .move (.tmp 13), (some (65, true)), []⟩,
    ⟨(some 69), .move (.tmp 2), (some (65, true)), []⟩,
    ⟨(some 70), .bin .other .add (.tmp 68) (.tmp 69), (some (65, true)), []⟩,
    ⟨(some 71), .bin .other .leq (.tmp 67) (.tmp 70), (some (65, true)), []⟩,
    ⟨(some 72), .pick (.tmp 65) (.tmp 71) (.c (.bool false)), none, []⟩,
    ⟨(some 6), .move (.tmp 72), none, []⟩]) k7x35
def k7x29 : AC := .seq (.seq (.ops true [
    ⟨(some 52), .move (.tmp 7), none, []⟩,
    ⟨(some 53), .move (.tmp 2), none, []⟩,
    ⟨(some 54), .call 20 [(.tmp 52), (.tmp 53)] [(.cell (.int .i64))] (.int .i64 0), none, []⟩,
    ⟨(some 55), .bin .other .neq (.tmp 54) (.c (.int .i64 0)), none, []⟩,
    ⟨(some 56), .move (.tmp 55), none, []⟩,
    ⟨(some 57), .move (.tmp 7), (some (56, false)), []⟩,
    ⟨(some 58), .call 20 [(.tmp 57), (.c (.int .i64 101))] [(.cell (.int .i64))] (.int .i64 0), (some (56, false)), []⟩,
    ⟨(some 59), .bin .other .neq (.tmp 58) (.c (.int .i64 4)), (some (56, false)), []⟩,
    ⟨(some 60), .pick (.tmp 56) (.c (.bool true)) (.tmp 59), none, []⟩]) k7x31) k7x30
def k7x28 : AC := .seq (.ops false [
    ⟨(some 50), .move (.tmp 2), none, []⟩,
    ⟨(some 51), .call 14 [(.tmp 50), (.c (.int .i64 101))] [(.cell (.int .i64))] (.int .i64 0), none, []⟩,
    ⟨(some 2), .move (.tmp 51), none, []⟩]) k7x29
def k7x7 : AC := .seq (.ops false [
    ⟨(some 48), .move (.tmp 7), none, []⟩,
    ⟨(some 49), .call 18 [(.tmp 48)] [(.cell (.int .i64))] (.int .i64 0), none, []⟩,
    ⟨(some 13), .move (.tmp 49), none, []⟩]) k7x28
def k7x2 : AC := .seq (.seq (.ops false [
    ⟨(some 21), .move (.tmp 0), none, []⟩,
    ⟨(some 22), .call 12 [(.tmp 21)] [(.cell .sl)] (.sl .nil 0), none, []⟩,
    ⟨(some 23), .lenSl (.tmp 22), none, []⟩,
    ⟨(some 24), .move (.c (.int .i64 0)), none, []⟩]) k7x8) k7x7
def k7x1 : AC := .seq (.seq (.ops true [
    ⟨(some 15), .call 11 [] [(.cell .bool)] (.bool false), none, []⟩,
    ⟨(some 16), .un .not (.tmp 15), none, []⟩,
    ⟨(some 17), .move (.tmp 16), none, []⟩,
    ⟨(some 18), .move (.tmp 7), (some (17, false)), []⟩,
    ⟨(some 19), .bin .ptr .eql (.tmp 18) (.c (.ptr none)), (some (17, false)), []⟩,
    ⟨(some 20), .pick (.tmp 17) (.c (.bool true)) (.tmp 19), none, []⟩]) k7x3) k7x2
def k7x0 : AC := .seq (.ops false [
    ⟨(some 14), .call 16 [] [(.cell .ptr)] (.ptr none), none, []⟩,
    ⟨(some 7), .move (.tmp 14), none, []⟩]) k7x1
/-- provenance/provenancekeep4.PipeDelays -/
def c7 : AFn := ⟨73, [.tmp 6],
  .seq (.ops false [
    ⟨(some 6), .move (.c (.bool false)), none, []⟩]) k7x0⟩
def S7xe0 (i2 : Int) (p7 : Option Ad) (h : Heap) : St := ⟨(.any :: .any :: (.g [] true (.int .i64 i2) :: (rep 4 (.g [] true (.ptr p7) :: (rep 65 []))))), h⟩
def S7xr (b6 : Bool) (h : Heap) : St := ⟨(rep 6 (.g [] true (.bool b6) :: (rep 66 []))), h⟩
noncomputable def Q7x10 : Kont (AV × Heap) := (blockQ 0 (seqQ (evalE M C k7x9) (seqQ (evalE M C k7x7) (endQ [.tmp 6]))))
noncomputable def L7x10 (s1 : SA) (n1 : Nat) (i2 : Int) (p7 : Option Ad) (s22 : SA) (n22 : Nat) (i23 : Int) (i24 : Int) (h : Heap) (Q : Kont R) : Option R := loopE (evalE M C k7x10) 29360262 132 ⟨(.any :: (.g [] true (.sl s1 n1) :: (.g [] true (.int .i64 i2) :: (rep 4 (.g [] true (.ptr p7) :: (rep 14 (.g [] true (.sl s22 n22) :: (.g [] true (.int .i64 i23) :: (.g [] true (.int .i64 i24) :: (rep 48 [])))))))))), h⟩ Q
noncomputable def J7x22 (s1 : SA) (n1 : Nat) (i2 : Int) (p7 : Option Ad) (i9x0 : Int) (i9x1 : Int) (i9x2 : Int) (i9x3 : Int) (i9x4 : Int) (i10 : Int) (s22 : SA) (n22 : Nat) (i23 : Int) (i24 : Int) (h : Heap) (Q : Kont R) : Option R := M R (seqQ (evalE M C k7x19) (blockQ 1 (seqQ (evalE M C k7x16) (seqQ (evalE M C k7x15) (roundQ M C k7x10 29360262 132 Q))))) (.any :: (.g [] true (.sl s1 n1) :: (.g [] true (.int .i64 i2) :: (rep 4 (.g [] true (.ptr p7) :: (.any :: (.box [(.int .i64 i9x0), (.int .i64 i9x1), (.int .i64 i9x2), (.int .i64 i9x3), (.int .i64 i9x4)] :: (.g [] true (.int .i64 i10) :: (rep 11 (.g [] true (.sl s22 n22) :: (.g [] true (.int .i64 i23) :: (.g [] true (.int .i64 i24) :: (rep 48 []))))))))))))) h
theorem r7 (s0 : SA) (n0 : Nat) (s1 : SA) (n1 : Nat) (i2 : Int) (h : Heap) : runE M C c7 [(.sl s0 n0), (.sl s1 n1), (.int .i64 i2)] h = (
  (C 16 [] h).bind fun r14 =>
  gP (some r14.1) true fun p14 =>
  (C 11 [] r14.2).bind fun r15 =>
  gB (some r15.1) true fun b15 =>
  letK ((Option.isNone p14) : Bool) fun b19 =>
  letK ((if (!b15) = true then true else b19) : Bool) fun b20 =>
  if b20 = true then
    (
    some ((.bool false), r15.2)
    )
  else
    (
    (C 12 [(.sl s0 n0)] r15.2).bind fun r22 =>
    gL (some r22.1) true fun s22 n22 =>
    L7x10 M C s1 n1 i2 p14 s22 n22 ((n22 : Nat) : Int) 0 r22.2 (Q7x10 M C)
    )
  ) := by kernel_rfl
theorem cf7 : cFn Try.prog 7 = some c7 := by kernel_rfl
theorem e7 (s0 : SA) (n0 : Nat) (s1 : SA) (n1 : Nat) (i2 : Int) (h : Heap) : E 7 [(.sl s0 n0), (.sl s1 n1), (.int .i64 i2)] h = (
  (E 16 [] h).bind fun r14 =>
  gP (some r14.1) true fun p14 =>
  (E 11 [] r14.2).bind fun r15 =>
  gB (some r15.1) true fun b15 =>
  letK ((Option.isNone p14) : Bool) fun b19 =>
  letK ((if (!b15) = true then true else b19) : Bool) fun b20 =>
  if b20 = true then
    (
    some ((.bool false), r15.2)
    )
  else
    (
    (E 12 [(.sl s0 n0)] r15.2).bind fun r22 =>
    gL (some r22.1) true fun s22 n22 =>
    L7x10 mk0 E s1 n1 i2 p14 s22 n22 ((n22 : Nat) : Int) 0 r22.2 (Q7x10 mk0 E)
    )
  ) := (EV_eq (P := Try.prog) (T := T0) rfl cf7 [(.sl s0 n0), (.sl s1 n1), (.int .i64 i2)] h).trans (r7 mk0 E s0 n0 s1 n1 i2 h)
theorem L7x10xaux (s1 : SA) (n1 : Nat) (i2 : Int) (p7 : Option Ad) (s22 : SA) (n22 : Nat) (i23 : Int) (i24 : Int) (h : Heap) (Q : Kont R) : (restrF 29360262 ⟨(.any :: (.g [] true (.sl s1 n1) :: (.g [] true (.int .i64 i2) :: (rep 4 (.g [] true (.ptr p7) :: (rep 14 (.g [] true (.sl s22 n22) :: (.g [] true (.int .i64 i23) :: (.g [] true (.int .i64 i24) :: (rep 48 [])))))))))), h⟩ fun σ => evalE M C k7x10 σ (roundQ M C k7x10 29360262 132 Q)) = (
  letK ((decide ((i24 : Int) < i23)) : Bool) fun b25 =>
  if b25 = true then
    (
    chk (true = true → (0 : Int) ≤ i24 ∧ (i24 : Int) < ((n22 : Nat) : Int)) <|
    atP (adP s22) true fun a27 =>
    gCells (ldN h (Ad.add a27 (Int.toNat i24 * 5)) 5) true fun l28 =>
    gI .i64 (l28[0]?) true fun i28x0 =>
    gI .i64 (l28[1]?) true fun i28x1 =>
    gI .i64 (l28[2]?) true fun i28x2 =>
    gI .i64 (l28[3]?) true fun i28x3 =>
    gI .i64 (l28[4]?) true fun i28x4 =>
    letK ((decide ((i24 : Int) < ((n1 : Nat) : Int))) : Bool) fun b32 =>
    if b32 = true then
      (
      chk (true = true → (0 : Int) ≤ i24 ∧ (i24 : Int) < ((n1 : Nat) : Int)) <|
      atP (adP s1) true fun a35 =>
      gI .i64 (ld1 h (Ad.add a35 (Int.toNat i24 * 1))) true fun i36 =>
      (C 14 [(.int .i64 i36), (.int .i64 20)] h).bind fun r37 =>
      gI .i64 (some r37.1) true fun i37 =>
      J7x22 M C s1 n1 i2 p7 i28x0 i28x1 i28x2 i28x3 i28x4 i37 s22 n22 i23 i24 r37.2 Q
      )
    else
      (
      J7x22 M C s1 n1 i2 p7 i28x0 i28x1 i28x2 i28x3 i28x4 0 s22 n22 i23 i24 h Q
      )
    )
  else
    (
    Q (.exit 0) (S7xe0 i2 p7 h)
    )
  ) := by kernel_rfl
theorem L7x10xeq (s1 : SA) (n1 : Nat) (i2 : Int) (p7 : Option Ad) (s22 : SA) (n22 : Nat) (i23 : Int) (i24 : Int) (h : Heap) (Q : Kont R) : L7x10 mk0 C s1 n1 i2 p7 s22 n22 i23 i24 h Q = (
  letK ((decide ((i24 : Int) < i23)) : Bool) fun b25 =>
  if b25 = true then
    (
    chk (true = true → (0 : Int) ≤ i24 ∧ (i24 : Int) < ((n22 : Nat) : Int)) <|
    atP (adP s22) true fun a27 =>
    gCells (ldN h (Ad.add a27 (Int.toNat i24 * 5)) 5) true fun l28 =>
    gI .i64 (l28[0]?) true fun i28x0 =>
    gI .i64 (l28[1]?) true fun i28x1 =>
    gI .i64 (l28[2]?) true fun i28x2 =>
    gI .i64 (l28[3]?) true fun i28x3 =>
    gI .i64 (l28[4]?) true fun i28x4 =>
    letK ((decide ((i24 : Int) < ((n1 : Nat) : Int))) : Bool) fun b32 =>
    if b32 = true then
      (
      chk (true = true → (0 : Int) ≤ i24 ∧ (i24 : Int) < ((n1 : Nat) : Int)) <|
      atP (adP s1) true fun a35 =>
      gI .i64 (ld1 h (Ad.add a35 (Int.toNat i24 * 1))) true fun i36 =>
      (C 14 [(.int .i64 i36), (.int .i64 20)] h).bind fun r37 =>
      gI .i64 (some r37.1) true fun i37 =>
      J7x22 mk0 C s1 n1 i2 p7 i28x0 i28x1 i28x2 i28x3 i28x4 i37 s22 n22 i23 i24 r37.2 Q
      )
    else
      (
      J7x22 mk0 C s1 n1 i2 p7 i28x0 i28x1 i28x2 i28x3 i28x4 0 s22 n22 i23 i24 h Q
      )
    )
  else
    (
    Q (.exit 0) (S7xe0 i2 p7 h)
    )
  ) := loop_eqn C k7x10 29360262 132 (.any :: (.g [] true (.sl s1 n1) :: (.g [] true (.int .i64 i2) :: (rep 4 (.g [] true (.ptr p7) :: (rep 14 (.g [] true (.sl s22 n22) :: (.g [] true (.int .i64 i23) :: (.g [] true (.int .i64 i24) :: (rep 48 [])))))))))) h Q (by kernel_rfl) (L7x10xaux mk0 C s1 n1 i2 p7 s22 n22 i23 i24 h Q)
theorem J7x22xaux (s1 : SA) (n1 : Nat) (i2 : Int) (p7 : Option Ad) (i9x0 : Int) (i9x1 : Int) (i9x2 : Int) (i9x3 : Int) (i9x4 : Int) (i10 : Int) (s22 : SA) (n22 : Nat) (i23 : Int) (i24 : Int) (h : Heap) (Q : Kont R) : (forceK tk (.any :: (.g [] true (.sl s1 n1) :: (.g [] true (.int .i64 i2) :: (rep 4 (.g [] true (.ptr p7) :: (.any :: (.box [(.int .i64 i9x0), (.int .i64 i9x1), (.int .i64 i9x2), (.int .i64 i9x3), (.int .i64 i9x4)] :: (.g [] true (.int .i64 i10) :: (rep 11 (.g [] true (.sl s22 n22) :: (.g [] true (.int .i64 i23) :: (.g [] true (.int .i64 i24) :: (rep 48 []))))))))))))) fun e => (seqQ (evalE M C k7x19) (blockQ 1 (seqQ (evalE M C k7x16) (seqQ (evalE M C k7x15) (roundQ M C k7x10 29360262 132 Q))))) .normal ⟨e, h⟩) = (
  (C 17 [(.ptr p7), (.agg [(.int .i64 i9x0), (.int .i64 i9x1), (.int .i64 i9x2), (.int .i64 i9x3), (.int .i64 i9x4)]), (.int .i64 i10)] h).bind fun r42 =>
  gT 2 r42.1 true fun u42 =>
  gI .i64 (some (List.getD u42 0 .opq)) true fun i42x0 =>
  gI .i64 (some (List.getD u42 1 .opq)) true fun i42x1 =>
  letK ((!decide ((i42x1 : Int) = 0)) : Bool) fun b46 =>
  if b46 = true then
    (
    Q .ret (S7xr false r42.2)
    )
  else
    (
    letK ((IntKind.wrap .i64 (i24 + 1)) : Int) fun i47 =>
    L7x10 M C s1 n1 i2 p7 s22 n22 i23 i47 r42.2 Q
    )
  ) := by kernel_rfl
theorem J7x22xeq (s1 : SA) (n1 : Nat) (i2 : Int) (p7 : Option Ad) (i9x0 : Int) (i9x1 : Int) (i9x2 : Int) (i9x3 : Int) (i9x4 : Int) (i10 : Int) (s22 : SA) (n22 : Nat) (i23 : Int) (i24 : Int) (h : Heap) (Q : Kont R) : J7x22 mk0 C s1 n1 i2 p7 i9x0 i9x1 i9x2 i9x3 i9x4 i10 s22 n22 i23 i24 h Q = (
  (C 17 [(.ptr p7), (.agg [(.int .i64 i9x0), (.int .i64 i9x1), (.int .i64 i9x2), (.int .i64 i9x3), (.int .i64 i9x4)]), (.int .i64 i10)] h).bind fun r42 =>
  gT 2 r42.1 true fun u42 =>
  gI .i64 (some (List.getD u42 0 .opq)) true fun i42x0 =>
  gI .i64 (some (List.getD u42 1 .opq)) true fun i42x1 =>
  letK ((!decide ((i42x1 : Int) = 0)) : Bool) fun b46 =>
  if b46 = true then
    (
    Q .ret (S7xr false r42.2)
    )
  else
    (
    letK ((IntKind.wrap .i64 (i24 + 1)) : Int) fun i47 =>
    L7x10 mk0 C s1 n1 i2 p7 s22 n22 i23 i47 r42.2 Q
    )
  ) := join_eqn (seqQ (evalE mk0 C k7x19) (blockQ 1 (seqQ (evalE mk0 C k7x16) (seqQ (evalE mk0 C k7x15) (roundQ mk0 C k7x10 29360262 132 Q))))) (.any :: (.g [] true (.sl s1 n1) :: (.g [] true (.int .i64 i2) :: (rep 4 (.g [] true (.ptr p7) :: (.any :: (.box [(.int .i64 i9x0), (.int .i64 i9x1), (.int .i64 i9x2), (.int .i64 i9x3), (.int .i64 i9x4)] :: (.g [] true (.int .i64 i10) :: (rep 11 (.g [] true (.sl s22 n22) :: (.g [] true (.int .i64 i23) :: (.g [] true (.int .i64 i24) :: (rep 48 []))))))))))))) h (J7x22xaux mk0 C s1 n1 i2 p7 i9x0 i9x1 i9x2 i9x3 i9x4 i10 s22 n22 i23 i24 h Q)
theorem X7x10xe0 (i2 : Int) (p7 : Option Ad) (h : Heap) : Q7x10 M C (.exit 0) (S7xe0 i2 p7 h) = (
  (C 18 [(.ptr p7)] h).bind fun r49 =>
  gI .i64 (some r49.1) true fun i49 =>
  (C 14 [(.int .i64 i2), (.int .i64 101)] r49.2).bind fun r51 =>
  gI .i64 (some r51.1) true fun i51 =>
  (C 20 [(.ptr p7), (.int .i64 i51)] r51.2).bind fun r54 =>
  gI .i64 (some r54.1) true fun i54 =>
  letK ((!decide ((i54 : Int) = 0)) : Bool) fun b55 =>
  (callO (!b55) (C 20 [(.ptr p7), (.int .i64 101)] r54.2) (.int .i64 0) r54.2).bind fun r58 =>
  gI .i64 (some r58.1) (!b55) fun i58 =>
  letK ((!decide ((i58 : Int) = 4)) : Bool) fun b59 =>
  letK ((if b55 = true then true else b59) : Bool) fun b60 =>
  if b60 = true then
    (
    some ((.bool false), r58.2)
    )
  else
    (
    (C 18 [(.ptr p7)] r58.2).bind fun r62 =>
    gI .i64 (some r62.1) true fun i62 =>
    letK ((decide ((i49 : Int) ≤ i62)) : Bool) fun b64 =>
    (callO b64 (C 18 [(.ptr p7)] r62.2) (.int .i64 0) r62.2).bind fun r67 =>
    gI .i64 (some r67.1) b64 fun i67 =>
    letK ((IntKind.wrap .i64 (i49 + i51)) : Int) fun i70 =>
    letK ((decide ((i67 : Int) ≤ i70)) : Bool) fun b71 =>
    letK ((if b64 = true then b71 else false) : Bool) fun b72 =>
    some ((.bool b72), r67.2)
    )
  ) := by kernel_rfl
theorem X7x10xr (b6 : Bool) (h : Heap) : Q7x10 M C .ret (S7xr b6 h) = (
  some ((.bool b6), h)
  ) := by kernel_rfl
end
end Go.Proofs.Ytepkdcgokedkdaa.H
