/- Parts of the proof, printed. -/
import Derived.Test.YtmfmnbldngfelaaIGen
import Derived.KernelRfl
set_option linter.unusedVariables false
set_option maxRecDepth 100000
namespace Go.Proofs.Ytmfmnbldngfelaa.I
open Go Go.Proofs.Ytmfmnbldngfelaa.Abs Go.Proofs
section
variable {R : Type} (M : Mk) (C : Cal)
def k37x6 : AC := .ret
def k37x5 : AC := .seq (.mask 16) k37x6
def k37x4 : AC := .mask 1
def k37x3 : AC := .seq (.cond (.tmp 9)
   (.seq (.ops false [
      ⟨(some 10), .move (.tmp 0), none, []⟩,
      ⟨(some 11), .move (.tmp 1), none, []⟩,
      ⟨(some 12), .bin .other .add (.tmp 10) (.tmp 11), none, []⟩,
      ⟨(some 4), .move (.tmp 12), none, []⟩]) k37x5)
   (.skip)) k37x4
def k37x8 : AC := .ret
def k37x7 : AC := .seq (.mask 16) k37x8
def k37x2 : AC := .seq (.ops false [
    ⟨(some 13), .move (.tmp 0), none, []⟩,
    ⟨(some 4), .move (.tmp 13), none, []⟩]) k37x7
def k37x1 : AC := .seq (.seq (.ops false [
    ⟨(some 8), .move (.tmp 0), none, []⟩,
    ⟨(some 9), .bin .other .lss (.tmp 8) (.c (.int .i64 0)), none, []⟩]) k37x3) k37x2
def k37x0 : AC := .seq (.ops false [
    ⟨(some 5), .move (.tmp 0), none, []⟩,
    ⟨(some 6), .move (.tmp 1), none, []⟩,
    ⟨(some 7), .bin .other .rem (.tmp 5) (.tmp 6), none, []⟩,
    ⟨(some 0), .move (.tmp 7), none, []⟩]) k37x1
/-- provenance/provenanceref4.modulo -/
def c37 : AFn := ⟨14, [.tmp 4],
  .seq (.ops false [
    ⟨(some 4), .move (.c (.int .i64 0)), none, []⟩]) k37x0⟩
theorem r37 (i0 : Int) (i1 : Int) (h : Heap) : runE M C c37 [(.int .i64 i0), (.int .i64 i1)] h = (
  chk (true = true → (i1 : Int) ≠ 0) <|
  letK ((Int.tmod i0 i1) : Int) fun i7 =>
  letK ((decide ((i7 : Int) < 0)) : Bool) fun b9 =>
  if b9 = true then
    (
    letK ((IntKind.wrap .i64 (i7 + i1)) : Int) fun i12 =>
    some ((.int .i64 i12), h)
    )
  else
    (
    some ((.int .i64 i7), h)
    )
  ) := by kernel_rfl
theorem cf37 : cFn Try.prog 37 = some c37 := by kernel_rfl
theorem e37 (i0 : Int) (i1 : Int) (h : Heap) : E 37 [(.int .i64 i0), (.int .i64 i1)] h = (
  chk (true = true → (i1 : Int) ≠ 0) <|
  letK ((Int.tmod i0 i1) : Int) fun i7 =>
  letK ((decide ((i7 : Int) < 0)) : Bool) fun b9 =>
  if b9 = true then
    (
    letK ((IntKind.wrap .i64 (i7 + i1)) : Int) fun i12 =>
    some ((.int .i64 i12), h)
    )
  else
    (
    some ((.int .i64 i7), h)
    )
  ) := (EV_eq (P := Try.prog) (T := T0) rfl cf37 [(.int .i64 i0), (.int .i64 i1)] h).trans (r37 mk0 E i0 i1 h)
def k14x2 : AC := .ret
def k14x1 : AC := .seq (.mask 16) k14x2
def k14x0 : AC := .seq (.ops false [
    ⟨(some 5), .move (.tmp 0), none, []⟩,
    ⟨(some 6), .move (.tmp 1), none, []⟩,
    ⟨(some 7), .call 37 [(.tmp 5), (.tmp 6)] [(.cell (.int .i64))] (.int .i64 0), none, []⟩,
    ⟨(some 4), .move (.tmp 7), none, []⟩]) k14x1
/-- provenance/provenanceref4.Rest -/
def c14 : AFn := ⟨8, [.tmp 4],
  .seq (.ops false [
    ⟨(some 4), .move (.c (.int .i64 0)), none, []⟩]) k14x0⟩
theorem r14 (i0 : Int) (i1 : Int) (h : Heap) : runE M C c14 [(.int .i64 i0), (.int .i64 i1)] h = (
  (C 37 [(.int .i64 i0), (.int .i64 i1)] h).bind fun r7 =>
  gI .i64 (some r7.1) true fun i7 =>
  some ((.int .i64 i7), r7.2)
  ) := by kernel_rfl
theorem cf14 : cFn Try.prog 14 = some c14 := by kernel_rfl
theorem e14 (i0 : Int) (i1 : Int) (h : Heap) : E 14 [(.int .i64 i0), (.int .i64 i1)] h = (
  (E 37 [(.int .i64 i0), (.int .i64 i1)] h).bind fun r7 =>
  gI .i64 (some r7.1) true fun i7 =>
  some ((.int .i64 i7), r7.2)
  ) := (EV_eq (P := Try.prog) (T := T0) rfl cf14 [(.int .i64 i0), (.int .i64 i1)] h).trans (r14 mk0 E i0 i1 h)
def k42x2 : AC := .ret
def k42x1 : AC := .seq (.mask 4) k42x2
def k42x0 : AC := .seq (.ops true [
    ⟨(some 3), .move (.tmp 0), none, []⟩,
    ⟨(some 4), .bin .other .eql (.tmp 3) (.c (.int .i64 16)), none, []⟩,
    ⟨(some 5), .move (.tmp 4), none, []⟩,
    ⟨(some 6), .move (.tmp 0), (some (5, false)), []⟩,
    ⟨(some 7), .bin .other .eql (.tmp 6) (.c (.int .i64 17)), (some (5, false)), []⟩,
    ⟨(some 8), .pick (.tmp 5) (.c (.bool true)) (.tmp 7), none, []⟩,
    ⟨(some 9), .move (.tmp 8), none, []⟩,
    ⟨(some 10), .move (.tmp 0), (some (9, false)), []⟩,
    ⟨(some 11), .bin .other .eql (.tmp 10) (.c (.int .i64 18)), (some (9, false)), []⟩,
    ⟨(some 12), .pick (.tmp 9) (.c (.bool true)) (.tmp 11), none, []⟩,
    ⟨(some 13), .move (.tmp 12), none, []⟩,
    ⟨(some 14), .move (.tmp 0), (some (13, false)), []⟩,
    ⟨(some 15), .bin .other .eql (.tmp 14) (.c (.int .i64 19)), (some (13, false)), []⟩,
    ⟨(some 16), .pick (.tmp 13) (.c (.bool true)) (.tmp 15), none, []⟩,
    ⟨(some 17), .move (.tmp 16), none, []⟩,
    ⟨(some 18), .move (.tmp 0), (some (17, false)), []⟩,
    ⟨(some 19), .bin .other .eql (.tmp 18) (.c (.int .i64 20)), (some (17, false)), []⟩,
    ⟨(some 20), .pick (.tmp 17) (.c (.bool true)) (.tmp 19), none, []⟩,
    ⟨(some 2), .move (.tmp 20), none, []⟩]) k42x1
/-- provenance/insn.Jumps -/
def c42 : AFn := ⟨21, [.tmp 2],
  .seq (.ops false [
    ⟨(some 2), .move (.c (.bool false)), none, []⟩]) k42x0⟩
theorem r42 (i0 : Int) (h : Heap) : runE M C c42 [(.int .i64 i0)] h = (
  letK ((decide ((i0 : Int) = 16)) : Bool) fun b4 =>
  letK ((decide ((i0 : Int) = 17)) : Bool) fun b7 =>
  letK ((if b4 = true then true else b7) : Bool) fun b8 =>
  letK ((decide ((i0 : Int) = 18)) : Bool) fun b11 =>
  letK ((if b8 = true then true else b11) : Bool) fun b12 =>
  letK ((decide ((i0 : Int) = 19)) : Bool) fun b15 =>
  letK ((if b12 = true then true else b15) : Bool) fun b16 =>
  letK ((decide ((i0 : Int) = 20)) : Bool) fun b19 =>
  letK ((if b16 = true then true else b19) : Bool) fun b20 =>
  some ((.bool b20), h)
  ) := by kernel_rfl
theorem cf42 : cFn Try.prog 42 = some c42 := by kernel_rfl
theorem e42 (i0 : Int) (h : Heap) : E 42 [(.int .i64 i0)] h = (
  letK ((decide ((i0 : Int) = 16)) : Bool) fun b4 =>
  letK ((decide ((i0 : Int) = 17)) : Bool) fun b7 =>
  letK ((if b4 = true then true else b7) : Bool) fun b8 =>
  letK ((decide ((i0 : Int) = 18)) : Bool) fun b11 =>
  letK ((if b8 = true then true else b11) : Bool) fun b12 =>
  letK ((decide ((i0 : Int) = 19)) : Bool) fun b15 =>
  letK ((if b12 = true then true else b15) : Bool) fun b16 =>
  letK ((decide ((i0 : Int) = 20)) : Bool) fun b19 =>
  letK ((if b16 = true then true else b19) : Bool) fun b20 =>
  some ((.bool b20), h)
  ) := (EV_eq (P := Try.prog) (T := T0) rfl cf42 [(.int .i64 i0)] h).trans (r42 mk0 E i0 h)
def k43x9 : AC := .exit 0
def k43x8 : AC := .mask 24610
def k43x16 : AC := .join 24802
def k43x15 : AC := .seq (.cond (.tmp 20)
   (.ops false [
      ⟨(some 7), .move (.c (.int .i64 2)), none, []⟩])
   (.skip)) k43x16
def k43x14 : AC := .ops false [
    ⟨(some 21), .move (.tmp 5), none, []⟩,
    ⟨(some 22), .move (.tmp 6), none, []⟩,
    ⟨(some 23), .bin .other .add (.tmp 22) (.c (.int .i64 1)), none, []⟩,
    ⟨(some 24), .move (.tmp 5), none, []⟩,
    ⟨(some 25), .move (.tmp 6), none, []⟩,
    ⟨(some 26), .indexAddr 1 (.tmp 24) (.tmp 25), none, []⟩,
    ⟨(some 27), .load (.cell (.int .i64)) (.tmp 26), none, []⟩,
    ⟨(some 28), .move (.tmp 7), none, []⟩,
    ⟨(some 29), .bin .other .add (.tmp 27) (.tmp 28), none, []⟩,
    ⟨(some 30), .indexAddr 1 (.tmp 21) (.tmp 23), none, []⟩,
    ⟨none, .store 1 (.tmp 30) (.tmp 29), none, []⟩]
def k43x13 : AC := .seq (.seq (.ops false [
    ⟨(some 17), .move (.tmp 1), none, []⟩,
    ⟨(some 18), .move (.tmp 6), none, []⟩,
    ⟨(some 19), .indexAddr 1 (.tmp 17) (.tmp 18), none, []⟩,
    ⟨(some 20), .load (.cell .bool) (.tmp 19), none, []⟩]) k43x15) k43x14
def k43x12 : AC := .seq (.ops false [
    ⟨(some 7), .move (.c (.int .i64 1)), none, []⟩]) k43x13
def k43x11 : AC := .mask 24610
def k43x10 : AC := .ops false [
    ⟨(some 31), .bin .other .add (.tmp 14) (.c (.int .i64 1)), none, []⟩,
    ⟨(some 14), .move (.tmp 31), none, []⟩]
def k43x7 : AC := .seq (.seq (.block 1 (.seq (.ops false [
     ⟨(some 16), .move (.tmp 14), none, []⟩,
     ⟨(some 6), .move (.tmp 16), none, []⟩]) k43x12)) k43x11) k43x10
def k43x6 : AC := .seq (.seq (.cond (.tmp 15)
   (.skip)
   (.seq (.mask 32) k43x9)) k43x8) k43x7
def k43x5 : AC := .seq (.ops false [
    ⟨(some 15), .bin .other .lss (.tmp 14) (.tmp 13), none, []⟩]) k43x6
def k43x4 : AC := .mask 32
def k43x3 : AC := .seq (.block 0 (.loop 24610 32 k43x5)) k43x4
def k43x19 : AC := .ret
def k43x18 : AC := .seq (.mask 16) k43x19
def k43x2 : AC := .seq (.ops false [
    ⟨(some 32), .move (.tmp 5), none, []⟩,
    ⟨(some 4), .move (.tmp 32), none, []⟩]) k43x18
def k43x1 : AC := .seq (.seq (.ops false [
    ⟨(some 12), .move (.tmp 0), none, []⟩,
    ⟨(some 13), .lenSl (.tmp 12), none, []⟩,
    ⟨(some 14), .move (.c (.int .i64 0)), none, []⟩]) k43x3) k43x2
def k43x0 : AC := .seq (.ops false [
    ⟨(some 8), .move (.tmp 0), none, []⟩,
    ⟨(some 9), .lenSl (.tmp 8), none, []⟩,
    ⟨(some 10), .bin .other .add (.tmp 9) (.c (.int .i64 1)), none, []⟩,
    ⟨(some 11), .makeSl [(.int .i64 0)] 8 (.tmp 10) (.tmp 10), none, []⟩,
    ⟨(some 5), .move (.tmp 11), none, []⟩]) k43x1
/-- provenance/relax.starts -/
def c43 : AFn := ⟨33, [.tmp 4],
  .seq (.ops false [
    ⟨(some 4), .move (.c (.sl .nil 0)), none, []⟩]) k43x0⟩
def S43xe0 (s5 : SA) (n5 : Nat) (h : Heap) : St := ⟨(rep 5 (.g [] true (.sl s5 n5) :: (rep 27 []))), h⟩
noncomputable def Q43x5 (M : Mk) (C : Cal) : Kont (AV × Heap) := (blockQ 0 (seqQ (evalE M C k43x4) (seqQ (evalE M C k43x2) (endQ [.tmp 4]))))
noncomputable def L43x5 (s1 : SA) (n1 : Nat) (s5 : SA) (n5 : Nat) (i13 : Int) (i14 : Int) (h : Heap) (Q : Kont R) : Option R := loopE (evalE M C k43x5) 24610 32 ⟨(.any :: (.g [] true (.sl s1 n1) :: (rep 3 (.g [] true (.sl s5 n5) :: (rep 7 (.g [] true (.int .i64 i13) :: (.g [] true (.int .i64 i14) :: (rep 18 [])))))))), h⟩ Q
noncomputable def J43x17 (M : Mk) (C : Cal) (s1 : SA) (n1 : Nat) (s5 : SA) (n5 : Nat) (i6 : Int) (i7 : Int) (i13 : Int) (i14 : Int) (h : Heap) (Q : Kont R) : Option R := M R (seqQ (evalE M C k43x14) (blockQ 1 (seqQ (evalE M C k43x11) (seqQ (evalE M C k43x10) (roundQ M C k43x5 24610 32 Q))))) (.any :: (.g [] true (.sl s1 n1) :: (rep 3 (.g [] true (.sl s5 n5) :: (.g [] true (.int .i64 i6) :: (.g [] true (.int .i64 i7) :: (rep 5 (.g [] true (.int .i64 i13) :: (.g [] true (.int .i64 i14) :: (rep 18 [])))))))))) h
theorem r43 (s0 : SA) (n0 : Nat) (s1 : SA) (n1 : Nat) (h : Heap) : runE M C c43 [(.sl s0 n0), (.sl s1 n1)] h = (
  letK ((IntKind.wrap .i64 (((n0 : Nat) : Int) + 1)) : Int) fun i10 =>
  chk ((0 : Int) ≤ i10 ∧ (i10 : Int) ≤ i10 ∧ i10 * ((8 : Nat) : Int) ≤ 70368744177664) <|
  newK h (.cells (repl (Int.toNat i10) [(.int .i64 0)]) (.grow 1) 0) fun h_2 =>
  letK ((Int.toNat i10) : Nat) fun n11 =>
  L43x5 M C s1 n1 (.pos ⟨List.length h, 0, 0⟩) n11 ((n0 : Nat) : Int) 0 h_2 (Q43x5 M C)
  ) := by kernel_rfl
theorem cf43 : cFn Try.prog 43 = some c43 := by kernel_rfl
theorem e43 (s0 : SA) (n0 : Nat) (s1 : SA) (n1 : Nat) (h : Heap) : E 43 [(.sl s0 n0), (.sl s1 n1)] h = (
  letK ((IntKind.wrap .i64 (((n0 : Nat) : Int) + 1)) : Int) fun i10 =>
  chk ((0 : Int) ≤ i10 ∧ (i10 : Int) ≤ i10 ∧ i10 * ((8 : Nat) : Int) ≤ 70368744177664) <|
  newK h (.cells (repl (Int.toNat i10) [(.int .i64 0)]) (.grow 1) 0) fun h_2 =>
  letK ((Int.toNat i10) : Nat) fun n11 =>
  L43x5 mk0 E s1 n1 (.pos ⟨List.length h, 0, 0⟩) n11 ((n0 : Nat) : Int) 0 h_2 (Q43x5 mk0 E)
  ) := (EV_eq (P := Try.prog) (T := T0) rfl cf43 [(.sl s0 n0), (.sl s1 n1)] h).trans (r43 mk0 E s0 n0 s1 n1 h)
theorem L43x5xaux (s1 : SA) (n1 : Nat) (s5 : SA) (n5 : Nat) (i13 : Int) (i14 : Int) (h : Heap) (Q : Kont R) : (restrF 24610 ⟨(.any :: (.g [] true (.sl s1 n1) :: (rep 3 (.g [] true (.sl s5 n5) :: (rep 7 (.g [] true (.int .i64 i13) :: (.g [] true (.int .i64 i14) :: (rep 18 [])))))))), h⟩ fun σ => evalE M C k43x5 σ (roundQ M C k43x5 24610 32 Q)) = (
  letK ((decide ((i14 : Int) < i13)) : Bool) fun b15 =>
  if b15 = true then
    (
    chk (true = true → (0 : Int) ≤ i14 ∧ (i14 : Int) < ((n1 : Nat) : Int)) <|
    atP (adP s1) true fun a19 =>
    gB (ld1 h (Ad.add a19 (Int.toNat i14 * 1))) true fun b20 =>
    if b20 = true then
      (
      J43x17 M C s1 n1 s5 n5 i14 2 i13 i14 h Q
      )
    else
      (
      J43x17 M C s1 n1 s5 n5 i14 1 i13 i14 h Q
      )
    )
  else
    (
    Q (.exit 0) (S43xe0 s5 n5 h)
    )
  ) := by kernel_rfl
theorem L43x5xeq (s1 : SA) (n1 : Nat) (s5 : SA) (n5 : Nat) (i13 : Int) (i14 : Int) (h : Heap) (Q : Kont R) : L43x5 mk0 C s1 n1 s5 n5 i13 i14 h Q = (
  letK ((decide ((i14 : Int) < i13)) : Bool) fun b15 =>
  if b15 = true then
    (
    chk (true = true → (0 : Int) ≤ i14 ∧ (i14 : Int) < ((n1 : Nat) : Int)) <|
    atP (adP s1) true fun a19 =>
    gB (ld1 h (Ad.add a19 (Int.toNat i14 * 1))) true fun b20 =>
    if b20 = true then
      (
      J43x17 mk0 C s1 n1 s5 n5 i14 2 i13 i14 h Q
      )
    else
      (
      J43x17 mk0 C s1 n1 s5 n5 i14 1 i13 i14 h Q
      )
    )
  else
    (
    Q (.exit 0) (S43xe0 s5 n5 h)
    )
  ) := loop_eqn C k43x5 24610 32 (.any :: (.g [] true (.sl s1 n1) :: (rep 3 (.g [] true (.sl s5 n5) :: (rep 7 (.g [] true (.int .i64 i13) :: (.g [] true (.int .i64 i14) :: (rep 18 [])))))))) h Q (by kernel_rfl) (L43x5xaux mk0 C s1 n1 s5 n5 i13 i14 h Q)
theorem J43x17xaux (M : Mk) (C : Cal) (s1 : SA) (n1 : Nat) (s5 : SA) (n5 : Nat) (i6 : Int) (i7 : Int) (i13 : Int) (i14 : Int) (h : Heap) (Q : Kont R) : (forceK tk (.any :: (.g [] true (.sl s1 n1) :: (rep 3 (.g [] true (.sl s5 n5) :: (.g [] true (.int .i64 i6) :: (.g [] true (.int .i64 i7) :: (rep 5 (.g [] true (.int .i64 i13) :: (.g [] true (.int .i64 i14) :: (rep 18 [])))))))))) fun e => (seqQ (evalE M C k43x14) (blockQ 1 (seqQ (evalE M C k43x11) (seqQ (evalE M C k43x10) (roundQ M C k43x5 24610 32 Q))))) .normal ⟨e, h⟩) = (
  letK ((IntKind.wrap .i64 (i6 + 1)) : Int) fun i23 =>
  chk (true = true → (0 : Int) ≤ i6 ∧ (i6 : Int) < ((n5 : Nat) : Int)) <|
  atP (adP s5) true fun a26 =>
  gI .i64 (ld1 h (Ad.add a26 (Int.toNat i6 * 1))) true fun i27 =>
  letK ((IntKind.wrap .i64 (i27 + i7)) : Int) fun i29 =>
  chk (true = true → (0 : Int) ≤ i23 ∧ (i23 : Int) < ((n5 : Nat) : Int)) <|
  atP (adP s5) true fun a30 =>
  (st1 h (Ad.add a30 (Int.toNat i23 * 1)) (.int .i64 i29)).bind fun h_2 =>
  letK ((IntKind.wrap .i64 (i14 + 1)) : Int) fun i31 =>
  L43x5 M C s1 n1 s5 n5 i13 i31 h_2 Q
  ) := by kernel_rfl
theorem J43x17xeq (C : Cal) (s1 : SA) (n1 : Nat) (s5 : SA) (n5 : Nat) (i6 : Int) (i7 : Int) (i13 : Int) (i14 : Int) (h : Heap) (Q : Kont R) : J43x17 mk0 C s1 n1 s5 n5 i6 i7 i13 i14 h Q = (
  letK ((IntKind.wrap .i64 (i6 + 1)) : Int) fun i23 =>
  chk (true = true → (0 : Int) ≤ i6 ∧ (i6 : Int) < ((n5 : Nat) : Int)) <|
  atP (adP s5) true fun a26 =>
  gI .i64 (ld1 h (Ad.add a26 (Int.toNat i6 * 1))) true fun i27 =>
  letK ((IntKind.wrap .i64 (i27 + i7)) : Int) fun i29 =>
  chk (true = true → (0 : Int) ≤ i23 ∧ (i23 : Int) < ((n5 : Nat) : Int)) <|
  atP (adP s5) true fun a30 =>
  (st1 h (Ad.add a30 (Int.toNat i23 * 1)) (.int .i64 i29)).bind fun h_2 =>
  letK ((IntKind.wrap .i64 (i14 + 1)) : Int) fun i31 =>
  L43x5 mk0 C s1 n1 s5 n5 i13 i31 h_2 Q
  ) := join_eqn (seqQ (evalE mk0 C k43x14) (blockQ 1 (seqQ (evalE mk0 C k43x11) (seqQ (evalE mk0 C k43x10) (roundQ mk0 C k43x5 24610 32 Q))))) (.any :: (.g [] true (.sl s1 n1) :: (rep 3 (.g [] true (.sl s5 n5) :: (.g [] true (.int .i64 i6) :: (.g [] true (.int .i64 i7) :: (rep 5 (.g [] true (.int .i64 i13) :: (.g [] true (.int .i64 i14) :: (rep 18 [])))))))))) h (J43x17xaux mk0 C s1 n1 s5 n5 i6 i7 i13 i14 h Q)
theorem X43x5xe0 (M : Mk) (C : Cal) (s5 : SA) (n5 : Nat) (h : Heap) : Q43x5 M C (.exit 0) (S43xe0 s5 n5 h) = (
  some ((.sl s5 n5), h)
  ) := by kernel_rfl
def k44x5 : AC := .ret
def k44x4 : AC := .seq (.mask 4) k44x5
def k44x3 : AC := .mask 1
def k44x2 : AC := .seq (.cond (.tmp 9)
   (.seq (.ops false [
      ⟨(some 2), .move (.c (.int .i64 2)), none, []⟩]) k44x4)
   (.skip)) k44x3
def k44x13 : AC := .exit 0
def k44x12 : AC := .mask 7169
def k44x20 : AC := .join 7217
def k44x19 : AC := .seq (.cond (.tmp 20)
   (.ops false [
      ⟨(some 21), .fieldAddr 4 (.tmp 5), none, []⟩,
      ⟨none, .store 1 (.tmp 21) (.c (.int .i64 0)), none, []⟩])
   (.skip)) k44x20
def k44x27 : AC := .ret
def k44x26 : AC := .seq (.mask 4) k44x27
def k44x25 : AC := .mask 7217
def k44x24 : AC := .seq (.cond (.tmp 25)
   (.seq (.ops false [
      ⟨(some 26), .move (.tmp 6), none, []⟩,
      ⟨(some 2), .move (.tmp 26), none, []⟩]) k44x26)
   (.skip)) k44x25
def k44x23 : AC := .seq (.ops false [
    ⟨(some 24), .move (.tmp 6), none, []⟩,
    ⟨(some 25), .bin .other .neq (.tmp 24) (.c (.int .i64 0)), none, []⟩]) k44x24
def k44x32 : AC := .ret
def k44x31 : AC := .seq (.mask 4) k44x32
def k44x30 : AC := .mask 7217
def k44x29 : AC := .seq (.cond (.tmp 36)
   (.seq (.ops false [
      ⟨(some 2), .move (.c (.int .i64 4)), none, []⟩]) k44x31)
   (.skip)) k44x30
def k44x36 : AC := .ret
def k44x35 : AC := .seq (.mask 4) k44x36
def k44x34 : AC := .mask 7169
def k44x33 : AC := .seq (.cond (.tmp 51)
   (.seq (.ops false [
      ⟨(some 2), .move (.c (.int .i64 3)), none, []⟩]) k44x35)
   (.skip)) k44x34
def k44x28 : AC := .seq (.ops true [
    ⟨(some 37), .fieldAddr 5 (.tmp 4), none, []⟩,
    ⟨(some 38), .load (.cell (.int .i64)) (.tmp 37), none, []⟩,
    ⟨(some 39), .bin .other .geq (.tmp 38) (.c (.int .i64 0)), none, []⟩,
    ⟨(some 40), .move (.tmp 39), none, []⟩,
    ⟨(some 41), .fieldAddr 0 (.tmp 5), (some (40, true)), []⟩,
    ⟨(some 42), .load (.cell (.int .i64)) (.tmp 41), (some (40, true)), []⟩,
    ⟨(some 43), .call 42 [(.tmp 42)] [(.cell .bool)] (.bool false), (some (40, true)), []⟩,
    ⟨(some 44), .un .not (.tmp 43), (some (40, true)), []⟩,
    ⟨(some 45), .move (.tmp 44), (some (40, true)), []⟩,
    ⟨(some 46), .fieldAddr 0 (.tmp 4), (some (45, false)), []⟩,
    ⟨(some 47), .fieldAddr 4 (.tmp 46), (some (45, false)), []⟩,
    ⟨(some 48), .load (.cell (.int .i64)) (.tmp 47), (some (45, false)), []⟩,
    ⟨(some 49), .bin .other .neq (.tmp 48) (.c (.int .i64 0)), (some (45, false)), []⟩,
    ⟨(some 50), .pick (.tmp 45) (.c (.bool true)) (.tmp 49), (some (40, true)), []⟩,
    ⟨(some 51), .pick (.tmp 40) (.tmp 50) (.c (.bool false)), none, []⟩]) k44x33
def k44x22 : AC := .seq (.seq (.ops true [
    ⟨(some 27), .fieldAddr 5 (.tmp 4), none, []⟩,
    ⟨(some 28), .load (.cell (.int .i64)) (.tmp 27), none, []⟩,
    ⟨(some 29), .bin .other .lss (.tmp 28) (.c (.int .i64 (-1))), none, []⟩,
    ⟨(some 30), .move (.tmp 29), none, []⟩,
    ⟨(some 31), .fieldAddr 5 (.tmp 4), (some (30, false)), []⟩,
    ⟨(some 32), .load (.cell (.int .i64)) (.tmp 31), (some (30, false)), []⟩,
    ⟨(some 33), .move (.tmp 0), (some (30, false)), []⟩,
    ⟨(some 34), .lenSl (.tmp 33), (some (30, false)), []⟩,
    ⟨(some 35), .bin .other .gtr (.tmp 32) (.tmp 34), (some (30, false)), []⟩,
    ⟨(some 36), .pick (.tmp 30) (.c (.bool true)) (.tmp 35), none, []⟩]) k44x29) k44x28
def k44x18 : AC := .seq (.seq (.ops false [
    ⟨(some 22), .load (.agg [(.int .i64), (.int .i64), (.int .i64), (.int .i64), (.int .i64)]) (.tmp 5), none, []⟩,
    ⟨(some 23), .call 39 [(.tmp 22)] [(.cell (.int .i64))] (.int .i64 0), none, []⟩,
    ⟨(some 6), .move (.tmp 23), none, []⟩]) k44x23) k44x22
def k44x17 : AC := .seq (.seq (.ops false [
    ⟨(some 18), .fieldAddr 5 (.tmp 4), none, []⟩,
    ⟨(some 19), .load (.cell (.int .i64)) (.tmp 18), none, []⟩,
    ⟨(some 20), .bin .other .geq (.tmp 19) (.c (.int .i64 0)), none, []⟩]) k44x19) k44x18
def k44x16 : AC := .seq (.ops false [
    ⟨(some 16), .fieldAddr 0 (.tmp 4), none, []⟩,
    ⟨(some 17), .load (.agg [(.int .i64), (.int .i64), (.int .i64), (.int .i64), (.int .i64)]) (.tmp 16), none, []⟩,
    ⟨(some 5), .allocL [(.int .i64 0), (.int .i64 0), (.int .i64 0), (.int .i64 0), (.int .i64 0)], none, []⟩,
    ⟨none, .store 5 (.tmp 5) (.tmp 17), none, []⟩]) k44x17
def k44x15 : AC := .mask 7169
def k44x14 : AC := .ops false [
    ⟨(some 52), .bin .other .add (.tmp 12) (.c (.int .i64 1)), none, []⟩,
    ⟨(some 12), .move (.tmp 52), none, []⟩]
def k44x11 : AC := .seq (.seq (.block 1 (.seq (.ops false [
     ⟨(some 14), .indexAddr 6 (.tmp 10) (.tmp 12), none, []⟩,
     ⟨(some 15), .load (.agg [(.int .i64), (.int .i64), (.int .i64), (.int .i64), (.int .i64), (.int .i64)]) (.tmp 14), none, []⟩,
     ⟨(some 4), .allocL (List.replicate 6 (.int .i64 0)), none, []⟩,
     ⟨none, .store 6 (.tmp 4) (.tmp 15), none, []⟩]) k44x16)) k44x15) k44x14
def k44x10 : AC := .seq (.seq (.cond (.tmp 13)
   (.skip)
   (.seq (.mask 0) k44x13)) k44x12) k44x11
def k44x9 : AC := .seq (.ops false [
    ⟨(some 13), .bin .other .lss (.tmp 12) (.tmp 11), none, []⟩]) k44x10
def k44x8 : AC := .mask 0
def k44x7 : AC := .seq (.block 0 (.loop 7169 0 k44x9)) k44x8
def k44x38 : AC := .ret
def k44x37 : AC := .seq (.mask 4) k44x38
def k44x6 : AC := .seq (.ops false [
    ⟨(some 2), .move (.c (.int .i64 0)), none, []⟩]) k44x37
def k44x1 : AC := .seq (.seq (.ops false [
    ⟨(some 10), .move (.tmp 0), none, []⟩,
    ⟨(some 11), .lenSl (.tmp 10), none, []⟩,
    ⟨(some 12), .move (.c (.int .i64 0)), none, []⟩]) k44x7) k44x6
def k44x0 : AC := .seq (.seq (.ops false [
    ⟨(some 7), .move (.tmp 0), none, []⟩,
    ⟨(some 8), .lenSl (.tmp 7), none, []⟩,
    ⟨(some 9), .bin .other .gtr (.tmp 8) (.c (.int .i64 16384)), none, []⟩]) k44x2) k44x1
/-- provenance/relax.Check -/
def c44 : AFn := ⟨53, [.tmp 2],
  .seq (.ops false [
    ⟨(some 2), .move (.c (.int .i64 0)), none, []⟩]) k44x0⟩
def S44xe0 (h : Heap) : St := ⟨(rep 53 []), h⟩
def S44xr (i2 : Int) (h : Heap) : St := ⟨(.any :: .any :: (.g [] true (.int .i64 i2) :: (rep 50 []))), h⟩
noncomputable def Q44x9 (M : Mk) (C : Cal) : Kont (AV × Heap) := (blockQ 0 (seqQ (evalE M C k44x8) (seqQ (evalE M C k44x6) (endQ [.tmp 2]))))
noncomputable def L44x9 (s0 : SA) (n0 : Nat) (s10 : SA) (n10 : Nat) (i11 : Int) (i12 : Int) (h : Heap) (Q : Kont R) : Option R := loopE (evalE M C k44x9) 7169 0 ⟨(.g [] true (.sl s0 n0) :: (rep 9 (.g [] true (.sl s10 n10) :: (.g [] true (.int .i64 i11) :: (.g [] true (.int .i64 i12) :: (rep 40 [])))))), h⟩ Q
noncomputable def J44x21 (M : Mk) (C : Cal) (s0 : SA) (n0 : Nat) (i4x0 : Int) (i4x1 : Int) (i4x2 : Int) (i4x3 : Int) (i4x4 : Int) (i4x5 : Int) (i5x0 : Int) (i5x1 : Int) (i5x2 : Int) (i5x3 : Int) (i5x4 : Int) (s10 : SA) (n10 : Nat) (i11 : Int) (i12 : Int) (h : Heap) (Q : Kont R) : Option R := M R (seqQ (evalE M C k44x18) (blockQ 1 (seqQ (evalE M C k44x15) (seqQ (evalE M C k44x14) (roundQ M C k44x9 7169 0 Q))))) (.g [] true (.sl s0 n0) :: (rep 3 (.box [(.int .i64 i4x0), (.int .i64 i4x1), (.int .i64 i4x2), (.int .i64 i4x3), (.int .i64 i4x4), (.int .i64 i4x5)] :: (.box [(.int .i64 i5x0), (.int .i64 i5x1), (.int .i64 i5x2), (.int .i64 i5x3), (.int .i64 i5x4)] :: (rep 4 (.g [] true (.sl s10 n10) :: (.g [] true (.int .i64 i11) :: (.g [] true (.int .i64 i12) :: (rep 40 []))))))))) h
theorem r44 (s0 : SA) (n0 : Nat) (h : Heap) : runE M C c44 [(.sl s0 n0)] h = (
  letK ((decide ((16384 : Int) < ((n0 : Nat) : Int))) : Bool) fun b9 =>
  if b9 = true then
    (
    some ((.int .i64 2), h)
    )
  else
    (
    L44x9 M C s0 n0 s0 n0 ((n0 : Nat) : Int) 0 h (Q44x9 M C)
    )
  ) := by kernel_rfl
theorem cf44 : cFn Try.prog 44 = some c44 := by kernel_rfl
theorem e44 (s0 : SA) (n0 : Nat) (h : Heap) : E 44 [(.sl s0 n0)] h = (
  letK ((decide ((16384 : Int) < ((n0 : Nat) : Int))) : Bool) fun b9 =>
  if b9 = true then
    (
    some ((.int .i64 2), h)
    )
  else
    (
    L44x9 mk0 E s0 n0 s0 n0 ((n0 : Nat) : Int) 0 h (Q44x9 mk0 E)
    )
  ) := (EV_eq (P := Try.prog) (T := T0) rfl cf44 [(.sl s0 n0)] h).trans (r44 mk0 E s0 n0 h)
theorem L44x9xaux (s0 : SA) (n0 : Nat) (s10 : SA) (n10 : Nat) (i11 : Int) (i12 : Int) (h : Heap) (Q : Kont R) : (restrF 7169 ⟨(.g [] true (.sl s0 n0) :: (rep 9 (.g [] true (.sl s10 n10) :: (.g [] true (.int .i64 i11) :: (.g [] true (.int .i64 i12) :: (rep 40 [])))))), h⟩ fun σ => evalE M C k44x9 σ (roundQ M C k44x9 7169 0 Q)) = (
  letK ((decide ((i12 : Int) < i11)) : Bool) fun b13 =>
  if b13 = true then
    (
    chk (true = true → (0 : Int) ≤ i12 ∧ (i12 : Int) < ((n10 : Nat) : Int)) <|
    atP (adP s10) true fun a14 =>
    gCells (ldN h (Ad.add a14 (Int.toNat i12 * 6)) 6) true fun l15 =>
    gI .i64 (l15[0]?) true fun i15x0 =>
    gI .i64 (l15[1]?) true fun i15x1 =>
    gI .i64 (l15[2]?) true fun i15x2 =>
    gI .i64 (l15[3]?) true fun i15x3 =>
    gI .i64 (l15[4]?) true fun i15x4 =>
    gI .i64 (l15[5]?) true fun i15x5 =>
    letK ((decide ((0 : Int) ≤ i15x5)) : Bool) fun b20 =>
    if b20 = true then
      (
      J44x21 M C s0 n0 i15x0 i15x1 i15x2 i15x3 i15x4 i15x5 i15x0 i15x1 i15x2 i15x3 0 s10 n10 i11 i12 h Q
      )
    else
      (
      J44x21 M C s0 n0 i15x0 i15x1 i15x2 i15x3 i15x4 i15x5 i15x0 i15x1 i15x2 i15x3 i15x4 s10 n10 i11 i12 h Q
      )
    )
  else
    (
    Q (.exit 0) (S44xe0 h)
    )
  ) := by kernel_rfl
theorem L44x9xeq (s0 : SA) (n0 : Nat) (s10 : SA) (n10 : Nat) (i11 : Int) (i12 : Int) (h : Heap) (Q : Kont R) : L44x9 mk0 C s0 n0 s10 n10 i11 i12 h Q = (
  letK ((decide ((i12 : Int) < i11)) : Bool) fun b13 =>
  if b13 = true then
    (
    chk (true = true → (0 : Int) ≤ i12 ∧ (i12 : Int) < ((n10 : Nat) : Int)) <|
    atP (adP s10) true fun a14 =>
    gCells (ldN h (Ad.add a14 (Int.toNat i12 * 6)) 6) true fun l15 =>
    gI .i64 (l15[0]?) true fun i15x0 =>
    gI .i64 (l15[1]?) true fun i15x1 =>
    gI .i64 (l15[2]?) true fun i15x2 =>
    gI .i64 (l15[3]?) true fun i15x3 =>
    gI .i64 (l15[4]?) true fun i15x4 =>
    gI .i64 (l15[5]?) true fun i15x5 =>
    letK ((decide ((0 : Int) ≤ i15x5)) : Bool) fun b20 =>
    if b20 = true then
      (
      J44x21 mk0 C s0 n0 i15x0 i15x1 i15x2 i15x3 i15x4 i15x5 i15x0 i15x1 i15x2 i15x3 0 s10 n10 i11 i12 h Q
      )
    else
      (
      J44x21 mk0 C s0 n0 i15x0 i15x1 i15x2 i15x3 i15x4 i15x5 i15x0 i15x1 i15x2 i15x3 i15x4 s10 n10 i11 i12 h Q
      )
    )
  else
    (
    Q (.exit 0) (S44xe0 h)
    )
  ) := loop_eqn C k44x9 7169 0 (.g [] true (.sl s0 n0) :: (rep 9 (.g [] true (.sl s10 n10) :: (.g [] true (.int .i64 i11) :: (.g [] true (.int .i64 i12) :: (rep 40 [])))))) h Q (by kernel_rfl) (L44x9xaux mk0 C s0 n0 s10 n10 i11 i12 h Q)
theorem J44x21xaux (M : Mk) (C : Cal) (s0 : SA) (n0 : Nat) (i4x0 : Int) (i4x1 : Int) (i4x2 : Int) (i4x3 : Int) (i4x4 : Int) (i4x5 : Int) (i5x0 : Int) (i5x1 : Int) (i5x2 : Int) (i5x3 : Int) (i5x4 : Int) (s10 : SA) (n10 : Nat) (i11 : Int) (i12 : Int) (h : Heap) (Q : Kont R) : (forceK tk (.g [] true (.sl s0 n0) :: (rep 3 (.box [(.int .i64 i4x0), (.int .i64 i4x1), (.int .i64 i4x2), (.int .i64 i4x3), (.int .i64 i4x4), (.int .i64 i4x5)] :: (.box [(.int .i64 i5x0), (.int .i64 i5x1), (.int .i64 i5x2), (.int .i64 i5x3), (.int .i64 i5x4)] :: (rep 4 (.g [] true (.sl s10 n10) :: (.g [] true (.int .i64 i11) :: (.g [] true (.int .i64 i12) :: (rep 40 []))))))))) fun e => (seqQ (evalE M C k44x18) (blockQ 1 (seqQ (evalE M C k44x15) (seqQ (evalE M C k44x14) (roundQ M C k44x9 7169 0 Q))))) .normal ⟨e, h⟩) = (
  (C 39 [(.agg [(.int .i64 i5x0), (.int .i64 i5x1), (.int .i64 i5x2), (.int .i64 i5x3), (.int .i64 i5x4)])] h).bind fun r23 =>
  gI .i64 (some r23.1) true fun i23 =>
  letK ((!decide ((i23 : Int) = 0)) : Bool) fun b25 =>
  if b25 = true then
    (
    Q .ret (S44xr i23 r23.2)
    )
  else
    (
    letK ((decide ((i4x5 : Int) < (-1))) : Bool) fun b29 =>
    gI .i64 (some (.int .i64 i4x5)) (!b29) fun i32 =>
    letK ((decide ((((n0 : Nat) : Int) : Int) < i32)) : Bool) fun b35 =>
    letK ((if b29 = true then true else b35) : Bool) fun b36 =>
    if b36 = true then
      (
      Q .ret (S44xr 4 r23.2)
      )
    else
      (
      letK ((decide ((0 : Int) ≤ i4x5)) : Bool) fun b39 =>
      gI .i64 (some (.int .i64 i5x0)) b39 fun i42 =>
      (callO b39 (C 42 [(.int .i64 i42)] r23.2) (.bool false) r23.2).bind fun r43 =>
      gB (some r43.1) b39 fun b43 =>
      gI .i64 (some (.int .i64 i4x4)) (andB b39 (!(!b43))) fun i48 =>
      letK ((!decide ((i48 : Int) = 0)) : Bool) fun b49 =>
      letK ((if (!b43) = true then true else b49) : Bool) fun b50 =>
      letK ((if b39 = true then b50 else false) : Bool) fun b51 =>
      if b51 = true then
        (
        Q .ret (S44xr 3 r43.2)
        )
      else
        (
        letK ((IntKind.wrap .i64 (i12 + 1)) : Int) fun i52 =>
        L44x9 M C s0 n0 s10 n10 i11 i52 r43.2 Q
        )
      )
    )
  ) := by kernel_rfl
theorem J44x21xeq (C : Cal) (s0 : SA) (n0 : Nat) (i4x0 : Int) (i4x1 : Int) (i4x2 : Int) (i4x3 : Int) (i4x4 : Int) (i4x5 : Int) (i5x0 : Int) (i5x1 : Int) (i5x2 : Int) (i5x3 : Int) (i5x4 : Int) (s10 : SA) (n10 : Nat) (i11 : Int) (i12 : Int) (h : Heap) (Q : Kont R) : J44x21 mk0 C s0 n0 i4x0 i4x1 i4x2 i4x3 i4x4 i4x5 i5x0 i5x1 i5x2 i5x3 i5x4 s10 n10 i11 i12 h Q = (
  (C 39 [(.agg [(.int .i64 i5x0), (.int .i64 i5x1), (.int .i64 i5x2), (.int .i64 i5x3), (.int .i64 i5x4)])] h).bind fun r23 =>
  gI .i64 (some r23.1) true fun i23 =>
  letK ((!decide ((i23 : Int) = 0)) : Bool) fun b25 =>
  if b25 = true then
    (
    Q .ret (S44xr i23 r23.2)
    )
  else
    (
    letK ((decide ((i4x5 : Int) < (-1))) : Bool) fun b29 =>
    gI .i64 (some (.int .i64 i4x5)) (!b29) fun i32 =>
    letK ((decide ((((n0 : Nat) : Int) : Int) < i32)) : Bool) fun b35 =>
    letK ((if b29 = true then true else b35) : Bool) fun b36 =>
    if b36 = true then
      (
      Q .ret (S44xr 4 r23.2)
      )
    else
      (
      letK ((decide ((0 : Int) ≤ i4x5)) : Bool) fun b39 =>
      gI .i64 (some (.int .i64 i5x0)) b39 fun i42 =>
      (callO b39 (C 42 [(.int .i64 i42)] r23.2) (.bool false) r23.2).bind fun r43 =>
      gB (some r43.1) b39 fun b43 =>
      gI .i64 (some (.int .i64 i4x4)) (andB b39 (!(!b43))) fun i48 =>
      letK ((!decide ((i48 : Int) = 0)) : Bool) fun b49 =>
      letK ((if (!b43) = true then true else b49) : Bool) fun b50 =>
      letK ((if b39 = true then b50 else false) : Bool) fun b51 =>
      if b51 = true then
        (
        Q .ret (S44xr 3 r43.2)
        )
      else
        (
        letK ((IntKind.wrap .i64 (i12 + 1)) : Int) fun i52 =>
        L44x9 mk0 C s0 n0 s10 n10 i11 i52 r43.2 Q
        )
      )
    )
  ) := join_eqn (seqQ (evalE mk0 C k44x18) (blockQ 1 (seqQ (evalE mk0 C k44x15) (seqQ (evalE mk0 C k44x14) (roundQ mk0 C k44x9 7169 0 Q))))) (.g [] true (.sl s0 n0) :: (rep 3 (.box [(.int .i64 i4x0), (.int .i64 i4x1), (.int .i64 i4x2), (.int .i64 i4x3), (.int .i64 i4x4), (.int .i64 i4x5)] :: (.box [(.int .i64 i5x0), (.int .i64 i5x1), (.int .i64 i5x2), (.int .i64 i5x3), (.int .i64 i5x4)] :: (rep 4 (.g [] true (.sl s10 n10) :: (.g [] true (.int .i64 i11) :: (.g [] true (.int .i64 i12) :: (rep 40 []))))))))) h (J44x21xaux mk0 C s0 n0 i4x0 i4x1 i4x2 i4x3 i4x4 i4x5 i5x0 i5x1 i5x2 i5x3 i5x4 s10 n10 i11 i12 h Q)
theorem X44x9xe0 (M : Mk) (C : Cal) (h : Heap) : Q44x9 M C (.exit 0) (S44xe0 h) = (
  some ((.int .i64 0), h)
  ) := by kernel_rfl
theorem X44x9xr (M : Mk) (C : Cal) (i2 : Int) (h : Heap) : Q44x9 M C .ret (S44xr i2 h) = (
  some ((.int .i64 i2), h)
  ) := by kernel_rfl
def k31x6 : AC := .ret
def k31x5 : AC := .seq (.mask 12) k31x6
def k31x4 : AC := .mask 1
def k31x3 : AC := .seq (.cond (.tmp 15)
   (.seq (.ops false [
      ⟨(some 16), .move (.tmp 4), none, []⟩,
      ⟨(some 2), .move (.c (.sl .nil 0)), none, []⟩,
      ⟨(some 3), .move (.tmp 16), none, []⟩]) k31x5)
   (.skip)) k31x4
def k31x2 : AC := .seq (.ops false [
    ⟨(some 14), .move (.tmp 4), none, []⟩,
    ⟨(some 15), .bin .other .neq (.tmp 14) (.c (.int .i64 0)), none, []⟩]) k31x3
def k31x15 : AC := .exit 0
def k31x14 : AC := .mask 7340065
def k31x18 : AC := .ops true [
    ⟨(some 27), .move (.tmp 5), none, []⟩,
    ⟨(some 28), .move (.tmp 6), none, []⟩,
    ⟨(some 29), .fieldAddr 5 (.tmp 7), none, []⟩,
    ⟨(some 30), .load (.cell (.int .i64)) (.tmp 29), none, []⟩,
    ⟨(some 31), .bin .other .lss (.tmp 30) (.c (.int .i64 0)), none, []⟩,
    ⟨(some 32), .move (.tmp 31), none, []⟩,
    ⟨(some 33), .fieldAddr 0 (.tmp 7), (some (32, true)), []⟩,
    ⟨(some 34), .load (.agg [(.int .i64), (.int .i64), (.int .i64), (.int .i64), (.int .i64)]) (.tmp 33), (some (32, true)), []⟩,
    ⟨(some 35), .call 25 [(.tmp 34)] [(.cell (.int .i64))] (.int .i64 0), (some (32, true)), []⟩,
    ⟨(some 36), .bin .other .eql (.tmp 35) (.c (.int .i64 2)), (some (32, true)), []⟩,
    ⟨(some 37), .pick (.tmp 32) (.tmp 36) (.c (.bool false)), none, []⟩,
    ⟨(some 38), .indexAddr 1 (.tmp 27) (.tmp 28), none, []⟩,
    ⟨none, .store 1 (.tmp 38) (.tmp 37), none, []⟩]
def k31x17 : AC := .mask 7340065
def k31x16 : AC := .ops false [
    ⟨(some 39), .bin .other .add (.tmp 22) (.c (.int .i64 1)), none, []⟩,
    ⟨(some 22), .move (.tmp 39), none, []⟩]
def k31x13 : AC := .seq (.seq (.block 1 (.seq (.ops false [
     ⟨(some 24), .move (.tmp 22), none, []⟩,
     ⟨(some 25), .indexAddr 6 (.tmp 20) (.tmp 22), none, []⟩,
     ⟨(some 26), .load (.agg [(.int .i64), (.int .i64), (.int .i64), (.int .i64), (.int .i64), (.int .i64)]) (.tmp 25), none, []⟩,
     ⟨(some 7), .allocL (List.replicate 6 (.int .i64 0)), none, []⟩,
     ⟨(some 6), .move (.tmp 24), none, []⟩,
     ⟨none, .store 6 (.tmp 7) (.tmp 26), none, []⟩]) k31x18)) k31x17) k31x16
def k31x12 : AC := .seq (.seq (.cond (.tmp 23)
   (.skip)
   (.seq (.mask 33) k31x15)) k31x14) k31x13
def k31x11 : AC := .seq (.ops false [
    ⟨(some 23), .bin .other .lss (.tmp 22) (.tmp 21), none, []⟩]) k31x12
def k31x10 : AC := .mask 33
def k31x9 : AC := .seq (.block 0 (.loop 7340065 33 k31x11)) k31x10
def k31x26 : AC := .exit 2
def k31x25 : AC := .mask 33
def k31x24 : AC := .seq (.cond (.tmp 40)
   (.skip)
   (.seq (.mask 32) k31x26)) k31x25
def k31x36 : AC := .exit 4
def k31x35 : AC := .mask 123145302311713
def k31x43 : AC := .exit 5
def k31x42 : AC := .mask 123145302314785
def k31x41 : AC := .seq (.cond (.tmp 59)
   (.seq (.mask 123145302311713) k31x43)
   (.skip)) k31x42
def k31x45 : AC := .join 123145302311713
def k31x44 : AC := .seq (.cond (.tmp 73)
   (.ops false [
      ⟨(some 74), .move (.tmp 5), none, []⟩,
      ⟨(some 75), .move (.tmp 10), none, []⟩,
      ⟨(some 76), .indexAddr 1 (.tmp 74) (.tmp 75), none, []⟩,
      ⟨none, .store 1 (.tmp 76) (.c (.bool true)), none, []⟩,
      ⟨(some 8), .move (.c (.bool true)), none, []⟩])
   (.skip)) k31x45
def k31x40 : AC := .seq (.ops false [
    ⟨(some 60), .move (.tmp 9), none, []⟩,
    ⟨(some 61), .fieldAddr 5 (.tmp 11), none, []⟩,
    ⟨(some 62), .load (.cell (.int .i64)) (.tmp 61), none, []⟩,
    ⟨(some 63), .indexAddr 1 (.tmp 60) (.tmp 62), none, []⟩,
    ⟨(some 64), .load (.cell (.int .i64)) (.tmp 63), none, []⟩,
    ⟨(some 65), .move (.tmp 9), none, []⟩,
    ⟨(some 66), .move (.tmp 10), none, []⟩,
    ⟨(some 67), .indexAddr 1 (.tmp 65) (.tmp 66), none, []⟩,
    ⟨(some 68), .load (.cell (.int .i64)) (.tmp 67), none, []⟩,
    ⟨(some 69), .bin .other .sub (.tmp 64) (.tmp 68), none, []⟩,
    ⟨(some 70), .bin .other .sub (.tmp 69) (.c (.int .i64 1)), none, []⟩,
    ⟨(some 71), .build [(.int .i64 0), (.int .i64 0), (.int .i64 0), (.int .i64 0), (.int .i64 0)] [(4, 1, (.tmp 70))], none, []⟩,
    ⟨(some 72), .call 25 [(.tmp 71)] [(.cell (.int .i64))] (.int .i64 0), none, []⟩,
    ⟨(some 73), .bin .other .eql (.tmp 72) (.c (.int .i64 2)), none, []⟩]) k31x44
def k31x39 : AC := .seq (.seq (.ops true [
    ⟨(some 51), .fieldAddr 5 (.tmp 11), none, []⟩,
    ⟨(some 52), .load (.cell (.int .i64)) (.tmp 51), none, []⟩,
    ⟨(some 53), .bin .other .lss (.tmp 52) (.c (.int .i64 0)), none, []⟩,
    ⟨(some 54), .move (.tmp 53), none, []⟩,
    ⟨(some 55), .move (.tmp 5), (some (54, false)), []⟩,
    ⟨(some 56), .move (.tmp 10), (some (54, false)), []⟩,
    ⟨(some 57), .indexAddr 1 (.tmp 55) (.tmp 56), (some (54, false)), []⟩,
    ⟨(some 58), .load (.cell .bool) (.tmp 57), (some (54, false)), []⟩,
    ⟨(some 59), .pick (.tmp 54) (.c (.bool true)) (.tmp 58), none, []⟩]) k31x41) k31x40
def k31x38 : AC := .join 123145302311713
def k31x37 : AC := .ops false [
    ⟨(some 77), .bin .other .add (.tmp 46) (.c (.int .i64 1)), none, []⟩,
    ⟨(some 46), .move (.tmp 77), none, []⟩]
def k31x34 : AC := .seq (.seq (.block 5 (.seq (.ops false [
     ⟨(some 48), .move (.tmp 46), none, []⟩,
     ⟨(some 49), .indexAddr 6 (.tmp 44) (.tmp 46), none, []⟩,
     ⟨(some 50), .load (.agg [(.int .i64), (.int .i64), (.int .i64), (.int .i64), (.int .i64), (.int .i64)]) (.tmp 49), none, []⟩,
     ⟨(some 11), .allocL (List.replicate 6 (.int .i64 0)), none, []⟩,
     ⟨(some 10), .move (.tmp 48), none, []⟩,
     ⟨none, .store 6 (.tmp 11) (.tmp 50), none, []⟩]) k31x39)) k31x38) k31x37
def k31x33 : AC := .seq (.seq (.cond (.tmp 47)
   (.skip)
   (.seq (.mask 289) k31x36)) k31x35) k31x34
def k31x32 : AC := .seq (.ops false [
    ⟨(some 47), .bin .other .lss (.tmp 46) (.tmp 45), none, []⟩]) k31x33
def k31x31 : AC := .mask 289
def k31x30 : AC := .seq (.block 4 (.loop 123145302311713 289 k31x32)) k31x31
def k31x29 : AC := .seq (.ops false [
    ⟨(some 44), .move (.tmp 0), none, []⟩,
    ⟨(some 45), .lenSl (.tmp 44), none, []⟩,
    ⟨(some 46), .move (.c (.int .i64 0)), none, []⟩]) k31x30
def k31x28 : AC := .seq (.ops false [
    ⟨(some 41), .move (.tmp 0), none, []⟩,
    ⟨(some 42), .move (.tmp 5), none, []⟩,
    ⟨(some 43), .call 43 [(.tmp 41), (.tmp 42)] [(.cell .sl)] (.sl .nil 0), none, []⟩,
    ⟨(some 9), .move (.tmp 43), none, []⟩]) k31x29
def k31x27 : AC := .mask 289
def k31x23 : AC := .seq (.block 3 (.seq (.ops false [
     ⟨(some 8), .move (.c (.bool false)), none, []⟩]) k31x28)) k31x27
def k31x22 : AC := .seq (.seq (.ops false [
    ⟨(some 40), .move (.tmp 8), none, []⟩]) k31x24) k31x23
def k31x21 : AC := .mask 32
def k31x20 : AC := .seq (.block 2 (.loop 289 32 k31x22)) k31x21
def k31x49 : AC := .ret
def k31x48 : AC := .seq (.mask 12) k31x49
def k31x19 : AC := .seq (.ops false [
    ⟨(some 78), .move (.tmp 5), none, []⟩,
    ⟨(some 2), .move (.tmp 78), none, []⟩,
    ⟨(some 3), .move (.c (.int .i64 0)), none, []⟩]) k31x48
def k31x8 : AC := .seq (.seq (.ops false [
    ⟨(some 8), .move (.c (.bool true)), none, []⟩]) k31x20) k31x19
def k31x7 : AC := .seq (.seq (.ops false [
    ⟨(some 20), .move (.tmp 0), none, []⟩,
    ⟨(some 21), .lenSl (.tmp 20), none, []⟩,
    ⟨(some 22), .move (.c (.int .i64 0)), none, []⟩]) k31x9) k31x8
def k31x1 : AC := .seq (.ops false [
    ⟨(some 17), .move (.tmp 0), none, []⟩,
    ⟨(some 18), .lenSl (.tmp 17), none, []⟩,
    ⟨(some 19), .makeSl [(.bool false)] 1 (.tmp 18) (.tmp 18), none, []⟩,
    ⟨(some 5), .move (.tmp 19), none, []⟩]) k31x7
def k31x0 : AC := .seq (.seq (.ops false [
    ⟨(some 12), .move (.tmp 0), none, []⟩,
    ⟨(some 13), .call 44 [(.tmp 12)] [(.cell (.int .i64))] (.int .i64 0), none, []⟩,
    ⟨(some 4), .move (.tmp 13), none, []⟩]) k31x2) k31x1
/-- provenance/relax.Sizes -/
def c31 : AFn := ⟨79, [.tmp 2, .tmp 3],
  .seq (.ops false [
    ⟨(some 2), .move (.c (.sl .nil 0)), none, []⟩,
    ⟨(some 3), .move (.c (.int .i64 0)), none, []⟩]) k31x0⟩
def S31xe0 (s0 : SA) (n0 : Nat) (s5 : SA) (n5 : Nat) (h : Heap) : St := ⟨(.g [] true (.sl s0 n0) :: (rep 4 (.g [] true (.sl s5 n5) :: (rep 73 [])))), h⟩
def S31xe2 (s5 : SA) (n5 : Nat) (h : Heap) : St := ⟨(rep 5 (.g [] true (.sl s5 n5) :: (rep 73 []))), h⟩
def S31xe4 (s0 : SA) (n0 : Nat) (s5 : SA) (n5 : Nat) (b8 : Bool) (h : Heap) : St := ⟨(.g [] true (.sl s0 n0) :: (rep 4 (.g [] true (.sl s5 n5) :: (.any :: .any :: (.g [] true (.bool b8) :: (rep 70 [])))))), h⟩
noncomputable def Q31x11 (M : Mk) (C : Cal) : Kont (AV × Heap) := (blockQ 0 (seqQ (evalE M C k31x10) (seqQ (evalE M C k31x8) (endQ [.tmp 2, .tmp 3]))))
noncomputable def L31x11 (s0 : SA) (n0 : Nat) (s5 : SA) (n5 : Nat) (s20 : SA) (n20 : Nat) (i21 : Int) (i22 : Int) (h : Heap) (Q : Kont R) : Option R := loopE (evalE M C k31x11) 7340065 33 ⟨(.g [] true (.sl s0 n0) :: (rep 4 (.g [] true (.sl s5 n5) :: (rep 14 (.g [] true (.sl s20 n20) :: (.g [] true (.int .i64 i21) :: (.g [] true (.int .i64 i22) :: (rep 56 [])))))))), h⟩ Q
noncomputable def Q31x22 (M : Mk) (C : Cal) : Kont (AV × Heap) := (blockQ 2 (seqQ (evalE M C k31x21) (seqQ (evalE M C k31x19) (endQ [.tmp 2, .tmp 3]))))
noncomputable def L31x22 (s0 : SA) (n0 : Nat) (s5 : SA) (n5 : Nat) (b8 : Bool) (h : Heap) (Q : Kont R) : Option R := loopE (evalE M C k31x22) 289 32 ⟨(.g [] true (.sl s0 n0) :: (rep 4 (.g [] true (.sl s5 n5) :: (.any :: .any :: (.g [] true (.bool b8) :: (rep 70 [])))))), h⟩ Q
noncomputable def Q31x32 (M : Mk) (C : Cal) (Q : Kont R) : Kont R := (blockQ 4 (seqQ (evalE M C k31x31) (blockQ 3 (seqQ (evalE M C k31x27) (roundQ M C k31x22 289 32 Q)))))
noncomputable def L31x32 (s0 : SA) (n0 : Nat) (s5 : SA) (n5 : Nat) (b8 : Bool) (s9 : SA) (n9 : Nat) (s44 : SA) (n44 : Nat) (i45 : Int) (i46 : Int) (h : Heap) (Q : Kont R) : Option R := loopE (evalE M C k31x32) 123145302311713 289 ⟨(.g [] true (.sl s0 n0) :: (rep 4 (.g [] true (.sl s5 n5) :: (.any :: .any :: (.g [] true (.bool b8) :: (.g [] true (.sl s9 n9) :: (rep 34 (.g [] true (.sl s44 n44) :: (.g [] true (.int .i64 i45) :: (.g [] true (.int .i64 i46) :: (rep 32 []))))))))))), h⟩ Q
noncomputable def J31x47 (M : Mk) (C : Cal) (s0 : SA) (n0 : Nat) (s5 : SA) (n5 : Nat) (b8 : Bool) (s9 : SA) (n9 : Nat) (s44 : SA) (n44 : Nat) (i45 : Int) (i46 : Int) (h : Heap) (Q : Kont R) : Option R := M R (seqQ (evalE M C k31x37) (roundQ M C k31x32 123145302311713 289 Q)) (.g [] true (.sl s0 n0) :: (rep 4 (.g [] true (.sl s5 n5) :: (.any :: .any :: (.g [] true (.bool b8) :: (.g [] true (.sl s9 n9) :: (rep 34 (.g [] true (.sl s44 n44) :: (.g [] true (.int .i64 i45) :: (.g [] true (.int .i64 i46) :: (rep 32 []))))))))))) h
noncomputable def J31x46 (M : Mk) (C : Cal) (s0 : SA) (n0 : Nat) (s5 : SA) (n5 : Nat) (b8 : Bool) (s9 : SA) (n9 : Nat) (s44 : SA) (n44 : Nat) (i45 : Int) (i46 : Int) (h : Heap) (Q : Kont R) : Option R := M R (blockQ 5 (seqQ (evalE M C k31x38) (seqQ (evalE M C k31x37) (roundQ M C k31x32 123145302311713 289 Q)))) (.g [] true (.sl s0 n0) :: (rep 4 (.g [] true (.sl s5 n5) :: (.any :: .any :: (.g [] true (.bool b8) :: (.g [] true (.sl s9 n9) :: (rep 34 (.g [] true (.sl s44 n44) :: (.g [] true (.int .i64 i45) :: (.g [] true (.int .i64 i46) :: (rep 32 []))))))))))) h
theorem r31 (s0 : SA) (n0 : Nat) (h : Heap) : runE M C c31 [(.sl s0 n0)] h = (
  (C 44 [(.sl s0 n0)] h).bind fun r13 =>
  gI .i64 (some r13.1) true fun i13 =>
  letK ((!decide ((i13 : Int) = 0)) : Bool) fun b15 =>
  if b15 = true then
    (
    some (.tup [(.sl .nil 0), (.int .i64 i13)], r13.2)
    )
  else
    (
    chk ((0 : Int) ≤ ((n0 : Nat) : Int) ∧ (((n0 : Nat) : Int) : Int) ≤ ((n0 : Nat) : Int) ∧ ((n0 : Nat) : Int) * ((1 : Nat) : Int) ≤ 70368744177664) <|
    newK r13.2 (.cells (repl (Int.toNat ((n0 : Nat) : Int)) [(.bool false)]) (.grow 1) 0) fun h_2 =>
    letK ((Int.toNat ((n0 : Nat) : Int)) : Nat) fun n19 =>
    L31x11 M C s0 n0 (.pos ⟨List.length r13.2, 0, 0⟩) n19 s0 n0 ((n0 : Nat) : Int) 0 h_2 (Q31x11 M C)
    )
  ) := by kernel_rfl
theorem cf31 : cFn Try.prog 31 = some c31 := by kernel_rfl
theorem e31 (s0 : SA) (n0 : Nat) (h : Heap) : E 31 [(.sl s0 n0)] h = (
  (E 44 [(.sl s0 n0)] h).bind fun r13 =>
  gI .i64 (some r13.1) true fun i13 =>
  letK ((!decide ((i13 : Int) = 0)) : Bool) fun b15 =>
  if b15 = true then
    (
    some (.tup [(.sl .nil 0), (.int .i64 i13)], r13.2)
    )
  else
    (
    chk ((0 : Int) ≤ ((n0 : Nat) : Int) ∧ (((n0 : Nat) : Int) : Int) ≤ ((n0 : Nat) : Int) ∧ ((n0 : Nat) : Int) * ((1 : Nat) : Int) ≤ 70368744177664) <|
    newK r13.2 (.cells (repl (Int.toNat ((n0 : Nat) : Int)) [(.bool false)]) (.grow 1) 0) fun h_2 =>
    letK ((Int.toNat ((n0 : Nat) : Int)) : Nat) fun n19 =>
    L31x11 mk0 E s0 n0 (.pos ⟨List.length r13.2, 0, 0⟩) n19 s0 n0 ((n0 : Nat) : Int) 0 h_2 (Q31x11 mk0 E)
    )
  ) := (EV_eq (P := Try.prog) (T := T0) rfl cf31 [(.sl s0 n0)] h).trans (r31 mk0 E s0 n0 h)
theorem L31x11xaux (s0 : SA) (n0 : Nat) (s5 : SA) (n5 : Nat) (s20 : SA) (n20 : Nat) (i21 : Int) (i22 : Int) (h : Heap) (Q : Kont R) : (restrF 7340065 ⟨(.g [] true (.sl s0 n0) :: (rep 4 (.g [] true (.sl s5 n5) :: (rep 14 (.g [] true (.sl s20 n20) :: (.g [] true (.int .i64 i21) :: (.g [] true (.int .i64 i22) :: (rep 56 [])))))))), h⟩ fun σ => evalE M C k31x11 σ (roundQ M C k31x11 7340065 33 Q)) = (
  letK ((decide ((i22 : Int) < i21)) : Bool) fun b23 =>
  if b23 = true then
    (
    chk (true = true → (0 : Int) ≤ i22 ∧ (i22 : Int) < ((n20 : Nat) : Int)) <|
    atP (adP s20) true fun a25 =>
    gCells (ldN h (Ad.add a25 (Int.toNat i22 * 6)) 6) true fun l26 =>
    gI .i64 (l26[0]?) true fun i26x0 =>
    gI .i64 (l26[1]?) true fun i26x1 =>
    gI .i64 (l26[2]?) true fun i26x2 =>
    gI .i64 (l26[3]?) true fun i26x3 =>
    gI .i64 (l26[4]?) true fun i26x4 =>
    gI .i64 (l26[5]?) true fun i26x5 =>
    letK ((decide ((i26x5 : Int) < 0)) : Bool) fun b31 =>
    chk (b31 = true → 0 + 5 ≤ 6) <|
    gI .i64 (some (.int .i64 i26x0)) b31 fun i34x0 =>
    gI .i64 (some (.int .i64 i26x1)) b31 fun i34x1 =>
    gI .i64 (some (.int .i64 i26x2)) b31 fun i34x2 =>
    gI .i64 (some (.int .i64 i26x3)) b31 fun i34x3 =>
    gI .i64 (some (.int .i64 i26x4)) b31 fun i34x4 =>
    (callO b31 (C 25 [(.agg [(.int .i64 i34x0), (.int .i64 i34x1), (.int .i64 i34x2), (.int .i64 i34x3), (.int .i64 i34x4)])] h) (.int .i64 0) h).bind fun r35 =>
    gI .i64 (some r35.1) b31 fun i35 =>
    letK ((decide ((i35 : Int) = 2)) : Bool) fun b36 =>
    letK ((if b31 = true then b36 else false) : Bool) fun b37 =>
    chk (true = true → (0 : Int) ≤ i22 ∧ (i22 : Int) < ((n5 : Nat) : Int)) <|
    atP (adP s5) true fun a38 =>
    (st1 r35.2 (Ad.add a38 (Int.toNat i22 * 1)) (.bool b37)).bind fun h_2 =>
    letK ((IntKind.wrap .i64 (i22 + 1)) : Int) fun i39 =>
    L31x11 M C s0 n0 s5 n5 s20 n20 i21 i39 h_2 Q
    )
  else
    (
    Q (.exit 0) (S31xe0 s0 n0 s5 n5 h)
    )
  ) := by kernel_rfl
theorem L31x11xeq (s0 : SA) (n0 : Nat) (s5 : SA) (n5 : Nat) (s20 : SA) (n20 : Nat) (i21 : Int) (i22 : Int) (h : Heap) (Q : Kont R) : L31x11 mk0 C s0 n0 s5 n5 s20 n20 i21 i22 h Q = (
  letK ((decide ((i22 : Int) < i21)) : Bool) fun b23 =>
  if b23 = true then
    (
    chk (true = true → (0 : Int) ≤ i22 ∧ (i22 : Int) < ((n20 : Nat) : Int)) <|
    atP (adP s20) true fun a25 =>
    gCells (ldN h (Ad.add a25 (Int.toNat i22 * 6)) 6) true fun l26 =>
    gI .i64 (l26[0]?) true fun i26x0 =>
    gI .i64 (l26[1]?) true fun i26x1 =>
    gI .i64 (l26[2]?) true fun i26x2 =>
    gI .i64 (l26[3]?) true fun i26x3 =>
    gI .i64 (l26[4]?) true fun i26x4 =>
    gI .i64 (l26[5]?) true fun i26x5 =>
    letK ((decide ((i26x5 : Int) < 0)) : Bool) fun b31 =>
    chk (b31 = true → 0 + 5 ≤ 6) <|
    gI .i64 (some (.int .i64 i26x0)) b31 fun i34x0 =>
    gI .i64 (some (.int .i64 i26x1)) b31 fun i34x1 =>
    gI .i64 (some (.int .i64 i26x2)) b31 fun i34x2 =>
    gI .i64 (some (.int .i64 i26x3)) b31 fun i34x3 =>
    gI .i64 (some (.int .i64 i26x4)) b31 fun i34x4 =>
    (callO b31 (C 25 [(.agg [(.int .i64 i34x0), (.int .i64 i34x1), (.int .i64 i34x2), (.int .i64 i34x3), (.int .i64 i34x4)])] h) (.int .i64 0) h).bind fun r35 =>
    gI .i64 (some r35.1) b31 fun i35 =>
    letK ((decide ((i35 : Int) = 2)) : Bool) fun b36 =>
    letK ((if b31 = true then b36 else false) : Bool) fun b37 =>
    chk (true = true → (0 : Int) ≤ i22 ∧ (i22 : Int) < ((n5 : Nat) : Int)) <|
    atP (adP s5) true fun a38 =>
    (st1 r35.2 (Ad.add a38 (Int.toNat i22 * 1)) (.bool b37)).bind fun h_2 =>
    letK ((IntKind.wrap .i64 (i22 + 1)) : Int) fun i39 =>
    L31x11 mk0 C s0 n0 s5 n5 s20 n20 i21 i39 h_2 Q
    )
  else
    (
    Q (.exit 0) (S31xe0 s0 n0 s5 n5 h)
    )
  ) := loop_eqn C k31x11 7340065 33 (.g [] true (.sl s0 n0) :: (rep 4 (.g [] true (.sl s5 n5) :: (rep 14 (.g [] true (.sl s20 n20) :: (.g [] true (.int .i64 i21) :: (.g [] true (.int .i64 i22) :: (rep 56 [])))))))) h Q (by kernel_rfl) (L31x11xaux mk0 C s0 n0 s5 n5 s20 n20 i21 i22 h Q)
theorem X31x11xe0 (M : Mk) (C : Cal) (s0 : SA) (n0 : Nat) (s5 : SA) (n5 : Nat) (h : Heap) : Q31x11 M C (.exit 0) (S31xe0 s0 n0 s5 n5 h) = (
  L31x22 M C s0 n0 s5 n5 true h (Q31x22 M C)
  ) := by kernel_rfl
theorem L31x22xaux (s0 : SA) (n0 : Nat) (s5 : SA) (n5 : Nat) (b8 : Bool) (h : Heap) (Q : Kont R) : (restrF 289 ⟨(.g [] true (.sl s0 n0) :: (rep 4 (.g [] true (.sl s5 n5) :: (.any :: .any :: (.g [] true (.bool b8) :: (rep 70 [])))))), h⟩ fun σ => evalE M C k31x22 σ (roundQ M C k31x22 289 32 Q)) = (
  if b8 = true then
    (
    (C 43 [(.sl s0 n0), (.sl s5 n5)] h).bind fun r43 =>
    gL (some r43.1) true fun s43 n43 =>
    L31x32 M C s0 n0 s5 n5 false s43 n43 s0 n0 ((n0 : Nat) : Int) 0 r43.2 (Q31x32 M C Q)
    )
  else
    (
    Q (.exit 2) (S31xe2 s5 n5 h)
    )
  ) := by kernel_rfl
theorem L31x22xeq (s0 : SA) (n0 : Nat) (s5 : SA) (n5 : Nat) (b8 : Bool) (h : Heap) (Q : Kont R) : L31x22 mk0 C s0 n0 s5 n5 b8 h Q = (
  if b8 = true then
    (
    (C 43 [(.sl s0 n0), (.sl s5 n5)] h).bind fun r43 =>
    gL (some r43.1) true fun s43 n43 =>
    L31x32 mk0 C s0 n0 s5 n5 false s43 n43 s0 n0 ((n0 : Nat) : Int) 0 r43.2 (Q31x32 mk0 C Q)
    )
  else
    (
    Q (.exit 2) (S31xe2 s5 n5 h)
    )
  ) := loop_eqn C k31x22 289 32 (.g [] true (.sl s0 n0) :: (rep 4 (.g [] true (.sl s5 n5) :: (.any :: .any :: (.g [] true (.bool b8) :: (rep 70 [])))))) h Q (by kernel_rfl) (L31x22xaux mk0 C s0 n0 s5 n5 b8 h Q)
theorem L31x32xaux (s0 : SA) (n0 : Nat) (s5 : SA) (n5 : Nat) (b8 : Bool) (s9 : SA) (n9 : Nat) (s44 : SA) (n44 : Nat) (i45 : Int) (i46 : Int) (h : Heap) (Q : Kont R) : (restrF 123145302311713 ⟨(.g [] true (.sl s0 n0) :: (rep 4 (.g [] true (.sl s5 n5) :: (.any :: .any :: (.g [] true (.bool b8) :: (.g [] true (.sl s9 n9) :: (rep 34 (.g [] true (.sl s44 n44) :: (.g [] true (.int .i64 i45) :: (.g [] true (.int .i64 i46) :: (rep 32 []))))))))))), h⟩ fun σ => evalE M C k31x32 σ (roundQ M C k31x32 123145302311713 289 Q)) = (
  letK ((decide ((i46 : Int) < i45)) : Bool) fun b47 =>
  if b47 = true then
    (
    chk (true = true → (0 : Int) ≤ i46 ∧ (i46 : Int) < ((n44 : Nat) : Int)) <|
    atP (adP s44) true fun a49 =>
    gCells (ldN h (Ad.add a49 (Int.toNat i46 * 6)) 6) true fun l50 =>
    gI .i64 (l50[0]?) true fun i50x0 =>
    gI .i64 (l50[1]?) true fun i50x1 =>
    gI .i64 (l50[2]?) true fun i50x2 =>
    gI .i64 (l50[3]?) true fun i50x3 =>
    gI .i64 (l50[4]?) true fun i50x4 =>
    gI .i64 (l50[5]?) true fun i50x5 =>
    letK ((decide ((i50x5 : Int) < 0)) : Bool) fun b53 =>
    chk ((!b53) = true → (0 : Int) ≤ i46 ∧ (i46 : Int) < ((n5 : Nat) : Int)) <|
    atP (adP s5) (!b53) fun a57 =>
    atP (some (Ad.add a57 (Int.toNat i46 * 1))) (!b53) fun a58 =>
    gB (ld1 h a58) (!b53) fun b58 =>
    letK ((if b53 = true then true else b58) : Bool) fun b59 =>
    if b59 = true then
      (
      J31x47 M C s0 n0 s5 n5 b8 s9 n9 s44 n44 i45 i46 h Q
      )
    else
      (
      chk (true = true → (0 : Int) ≤ i50x5 ∧ (i50x5 : Int) < ((n9 : Nat) : Int)) <|
      atP (adP s9) true fun a63 =>
      gI .i64 (ld1 h (Ad.add a63 (Int.toNat i50x5 * 1))) true fun i64 =>
      chk (true = true → (0 : Int) ≤ i46 ∧ (i46 : Int) < ((n9 : Nat) : Int)) <|
      atP (adP s9) true fun a67 =>
      gI .i64 (ld1 h (Ad.add a67 (Int.toNat i46 * 1))) true fun i68 =>
      letK ((IntKind.wrap .i64 (i64 - i68)) : Int) fun i69 =>
      letK ((IntKind.wrap .i64 (i69 - 1)) : Int) fun i70 =>
      (C 25 [(.agg [(.int .i64 0), (.int .i64 0), (.int .i64 0), (.int .i64 0), (.int .i64 i70)])] h).bind fun r72 =>
      gI .i64 (some r72.1) true fun i72 =>
      letK ((decide ((i72 : Int) = 2)) : Bool) fun b73 =>
      if b73 = true then
        (
        chk (true = true → (0 : Int) ≤ i46 ∧ (i46 : Int) < ((n5 : Nat) : Int)) <|
        atP (adP s5) true fun a76 =>
        (st1 r72.2 (Ad.add a76 (Int.toNat i46 * 1)) (.bool true)).bind fun h_2 =>
        J31x46 M C s0 n0 s5 n5 true s9 n9 s44 n44 i45 i46 h_2 Q
        )
      else
        (
        J31x46 M C s0 n0 s5 n5 b8 s9 n9 s44 n44 i45 i46 r72.2 Q
        )
      )
    )
  else
    (
    Q (.exit 4) (S31xe4 s0 n0 s5 n5 b8 h)
    )
  ) := by kernel_rfl
theorem L31x32xeq (s0 : SA) (n0 : Nat) (s5 : SA) (n5 : Nat) (b8 : Bool) (s9 : SA) (n9 : Nat) (s44 : SA) (n44 : Nat) (i45 : Int) (i46 : Int) (h : Heap) (Q : Kont R) : L31x32 mk0 C s0 n0 s5 n5 b8 s9 n9 s44 n44 i45 i46 h Q = (
  letK ((decide ((i46 : Int) < i45)) : Bool) fun b47 =>
  if b47 = true then
    (
    chk (true = true → (0 : Int) ≤ i46 ∧ (i46 : Int) < ((n44 : Nat) : Int)) <|
    atP (adP s44) true fun a49 =>
    gCells (ldN h (Ad.add a49 (Int.toNat i46 * 6)) 6) true fun l50 =>
    gI .i64 (l50[0]?) true fun i50x0 =>
    gI .i64 (l50[1]?) true fun i50x1 =>
    gI .i64 (l50[2]?) true fun i50x2 =>
    gI .i64 (l50[3]?) true fun i50x3 =>
    gI .i64 (l50[4]?) true fun i50x4 =>
    gI .i64 (l50[5]?) true fun i50x5 =>
    letK ((decide ((i50x5 : Int) < 0)) : Bool) fun b53 =>
    chk ((!b53) = true → (0 : Int) ≤ i46 ∧ (i46 : Int) < ((n5 : Nat) : Int)) <|
    atP (adP s5) (!b53) fun a57 =>
    atP (some (Ad.add a57 (Int.toNat i46 * 1))) (!b53) fun a58 =>
    gB (ld1 h a58) (!b53) fun b58 =>
    letK ((if b53 = true then true else b58) : Bool) fun b59 =>
    if b59 = true then
      (
      J31x47 mk0 C s0 n0 s5 n5 b8 s9 n9 s44 n44 i45 i46 h Q
      )
    else
      (
      chk (true = true → (0 : Int) ≤ i50x5 ∧ (i50x5 : Int) < ((n9 : Nat) : Int)) <|
      atP (adP s9) true fun a63 =>
      gI .i64 (ld1 h (Ad.add a63 (Int.toNat i50x5 * 1))) true fun i64 =>
      chk (true = true → (0 : Int) ≤ i46 ∧ (i46 : Int) < ((n9 : Nat) : Int)) <|
      atP (adP s9) true fun a67 =>
      gI .i64 (ld1 h (Ad.add a67 (Int.toNat i46 * 1))) true fun i68 =>
      letK ((IntKind.wrap .i64 (i64 - i68)) : Int) fun i69 =>
      letK ((IntKind.wrap .i64 (i69 - 1)) : Int) fun i70 =>
      (C 25 [(.agg [(.int .i64 0), (.int .i64 0), (.int .i64 0), (.int .i64 0), (.int .i64 i70)])] h).bind fun r72 =>
      gI .i64 (some r72.1) true fun i72 =>
      letK ((decide ((i72 : Int) = 2)) : Bool) fun b73 =>
      if b73 = true then
        (
        chk (true = true → (0 : Int) ≤ i46 ∧ (i46 : Int) < ((n5 : Nat) : Int)) <|
        atP (adP s5) true fun a76 =>
        (st1 r72.2 (Ad.add a76 (Int.toNat i46 * 1)) (.bool true)).bind fun h_2 =>
        J31x46 mk0 C s0 n0 s5 n5 true s9 n9 s44 n44 i45 i46 h_2 Q
        )
      else
        (
        J31x46 mk0 C s0 n0 s5 n5 b8 s9 n9 s44 n44 i45 i46 r72.2 Q
        )
      )
    )
  else
    (
    Q (.exit 4) (S31xe4 s0 n0 s5 n5 b8 h)
    )
  ) := loop_eqn C k31x32 123145302311713 289 (.g [] true (.sl s0 n0) :: (rep 4 (.g [] true (.sl s5 n5) :: (.any :: .any :: (.g [] true (.bool b8) :: (.g [] true (.sl s9 n9) :: (rep 34 (.g [] true (.sl s44 n44) :: (.g [] true (.int .i64 i45) :: (.g [] true (.int .i64 i46) :: (rep 32 []))))))))))) h Q (by kernel_rfl) (L31x32xaux mk0 C s0 n0 s5 n5 b8 s9 n9 s44 n44 i45 i46 h Q)
theorem J31x47xaux (M : Mk) (C : Cal) (s0 : SA) (n0 : Nat) (s5 : SA) (n5 : Nat) (b8 : Bool) (s9 : SA) (n9 : Nat) (s44 : SA) (n44 : Nat) (i45 : Int) (i46 : Int) (h : Heap) (Q : Kont R) : (forceK tk (.g [] true (.sl s0 n0) :: (rep 4 (.g [] true (.sl s5 n5) :: (.any :: .any :: (.g [] true (.bool b8) :: (.g [] true (.sl s9 n9) :: (rep 34 (.g [] true (.sl s44 n44) :: (.g [] true (.int .i64 i45) :: (.g [] true (.int .i64 i46) :: (rep 32 []))))))))))) fun e => (seqQ (evalE M C k31x37) (roundQ M C k31x32 123145302311713 289 Q)) .normal ⟨e, h⟩) = (
  letK ((IntKind.wrap .i64 (i46 + 1)) : Int) fun i77 =>
  L31x32 M C s0 n0 s5 n5 b8 s9 n9 s44 n44 i45 i77 h Q
  ) := by kernel_rfl
theorem J31x47xeq (C : Cal) (s0 : SA) (n0 : Nat) (s5 : SA) (n5 : Nat) (b8 : Bool) (s9 : SA) (n9 : Nat) (s44 : SA) (n44 : Nat) (i45 : Int) (i46 : Int) (h : Heap) (Q : Kont R) : J31x47 mk0 C s0 n0 s5 n5 b8 s9 n9 s44 n44 i45 i46 h Q = (
  letK ((IntKind.wrap .i64 (i46 + 1)) : Int) fun i77 =>
  L31x32 mk0 C s0 n0 s5 n5 b8 s9 n9 s44 n44 i45 i77 h Q
  ) := join_eqn (seqQ (evalE mk0 C k31x37) (roundQ mk0 C k31x32 123145302311713 289 Q)) (.g [] true (.sl s0 n0) :: (rep 4 (.g [] true (.sl s5 n5) :: (.any :: .any :: (.g [] true (.bool b8) :: (.g [] true (.sl s9 n9) :: (rep 34 (.g [] true (.sl s44 n44) :: (.g [] true (.int .i64 i45) :: (.g [] true (.int .i64 i46) :: (rep 32 []))))))))))) h (J31x47xaux mk0 C s0 n0 s5 n5 b8 s9 n9 s44 n44 i45 i46 h Q)
theorem J31x46xaux (M : Mk) (C : Cal) (s0 : SA) (n0 : Nat) (s5 : SA) (n5 : Nat) (b8 : Bool) (s9 : SA) (n9 : Nat) (s44 : SA) (n44 : Nat) (i45 : Int) (i46 : Int) (h : Heap) (Q : Kont R) : (forceK tk (.g [] true (.sl s0 n0) :: (rep 4 (.g [] true (.sl s5 n5) :: (.any :: .any :: (.g [] true (.bool b8) :: (.g [] true (.sl s9 n9) :: (rep 34 (.g [] true (.sl s44 n44) :: (.g [] true (.int .i64 i45) :: (.g [] true (.int .i64 i46) :: (rep 32 []))))))))))) fun e => (blockQ 5 (seqQ (evalE M C k31x38) (seqQ (evalE M C k31x37) (roundQ M C k31x32 123145302311713 289 Q)))) .normal ⟨e, h⟩) = (
  J31x47 M C s0 n0 s5 n5 b8 s9 n9 s44 n44 i45 i46 h Q
  ) := by kernel_rfl
theorem J31x46xeq (C : Cal) (s0 : SA) (n0 : Nat) (s5 : SA) (n5 : Nat) (b8 : Bool) (s9 : SA) (n9 : Nat) (s44 : SA) (n44 : Nat) (i45 : Int) (i46 : Int) (h : Heap) (Q : Kont R) : J31x46 mk0 C s0 n0 s5 n5 b8 s9 n9 s44 n44 i45 i46 h Q = (
  J31x47 mk0 C s0 n0 s5 n5 b8 s9 n9 s44 n44 i45 i46 h Q
  ) := join_eqn (blockQ 5 (seqQ (evalE mk0 C k31x38) (seqQ (evalE mk0 C k31x37) (roundQ mk0 C k31x32 123145302311713 289 Q)))) (.g [] true (.sl s0 n0) :: (rep 4 (.g [] true (.sl s5 n5) :: (.any :: .any :: (.g [] true (.bool b8) :: (.g [] true (.sl s9 n9) :: (rep 34 (.g [] true (.sl s44 n44) :: (.g [] true (.int .i64 i45) :: (.g [] true (.int .i64 i46) :: (rep 32 []))))))))))) h (J31x46xaux mk0 C s0 n0 s5 n5 b8 s9 n9 s44 n44 i45 i46 h Q)
theorem X31x22xe2 (M : Mk) (C : Cal) (s5 : SA) (n5 : Nat) (h : Heap) : Q31x22 M C (.exit 2) (S31xe2 s5 n5 h) = (
  some (.tup [(.sl s5 n5), (.int .i64 0)], h)
  ) := by kernel_rfl
theorem X31x32xe4 (M : Mk) (C : Cal) (s0 : SA) (n0 : Nat) (s5 : SA) (n5 : Nat) (b8 : Bool) (h : Heap) (Q : Kont R) : Q31x32 M C Q (.exit 4) (S31xe4 s0 n0 s5 n5 b8 h) = (
  L31x22 M C s0 n0 s5 n5 b8 h Q
  ) := by kernel_rfl
def k30x6 : AC := .ret
def k30x5 : AC := .seq (.mask 112) k30x6
def k30x4 : AC := .mask 131
def k30x3 : AC := .seq (.cond (.tmp 25)
   (.seq (.ops false [
      ⟨(some 26), .move (.tmp 8), none, []⟩,
      ⟨(some 4), .move (.c (.sl .nil 0)), none, []⟩,
      ⟨(some 5), .move (.c (.sl .nil 0)), none, []⟩,
      ⟨(some 6), .move (.tmp 26), none, []⟩]) k30x5)
   (.skip)) k30x4
def k30x14 : AC := .exit 0
def k30x13 : AC := .mask 939524227
def k30x17 : AC := .ops true [
    ⟨(some 34), .move (.tmp 7), none, []⟩,
    ⟨(some 35), .move (.tmp 9), none, []⟩,
    ⟨(some 36), .move (.tmp 7), none, []⟩,
    ⟨(some 37), .move (.tmp 9), none, []⟩,
    ⟨(some 38), .indexAddr 1 (.tmp 36) (.tmp 37), none, []⟩,
    ⟨(some 39), .load (.cell .bool) (.tmp 38), none, []⟩,
    ⟨(some 40), .move (.tmp 39), none, []⟩,
    ⟨(some 41), .move (.tmp 1), (some (40, false)), []⟩,
    ⟨(some 42), .move (.tmp 41), (some (40, false)), []⟩,
    ⟨(some 43), .fieldAddr 5 (.tmp 10), (some (42, true)), []⟩,
    ⟨(some 44), .load (.cell (.int .i64)) (.tmp 43), (some (42, true)), []⟩,
    ⟨(some 45), .bin .other .geq (.tmp 44) (.c (.int .i64 0)), (some (42, true)), []⟩,
    ⟨(some 46), .pick (.tmp 42) (.tmp 45) (.c (.bool false)), (some (40, false)), []⟩,
    ⟨(some 47), .pick (.tmp 40) (.c (.bool true)) (.tmp 46), none, []⟩,
    ⟨(some 48), .indexAddr 1 (.tmp 34) (.tmp 35), none, []⟩,
    ⟨none, .store 1 (.tmp 48) (.tmp 47), none, []⟩]
def k30x16 : AC := .mask 939524227
def k30x15 : AC := .ops false [
    ⟨(some 49), .bin .other .add (.tmp 29) (.c (.int .i64 1)), none, []⟩,
    ⟨(some 29), .move (.tmp 49), none, []⟩]
def k30x12 : AC := .seq (.seq (.block 1 (.seq (.ops false [
     ⟨(some 31), .move (.tmp 29), none, []⟩,
     ⟨(some 32), .indexAddr 6 (.tmp 27) (.tmp 29), none, []⟩,
     ⟨(some 33), .load (.agg [(.int .i64), (.int .i64), (.int .i64), (.int .i64), (.int .i64), (.int .i64)]) (.tmp 32), none, []⟩,
     ⟨(some 10), .allocL (List.replicate 6 (.int .i64 0)), none, []⟩,
     ⟨(some 9), .move (.tmp 31), none, []⟩,
     ⟨none, .store 6 (.tmp 10) (.tmp 33), none, []⟩]) k30x17)) k30x16) k30x15
def k30x11 : AC := .seq (.seq (.cond (.tmp 30)
   (.skip)
   (.seq (.mask 129) k30x14)) k30x13) k30x12
def k30x10 : AC := .seq (.ops false [
    ⟨(some 30), .bin .other .lss (.tmp 29) (.tmp 28), none, []⟩]) k30x11
def k30x9 : AC := .mask 129
def k30x8 : AC := .seq (.block 0 (.loop 939524227 129 k30x10)) k30x9
def k30x23 : AC := .ret
def k30x22 : AC := .seq (.mask 112) k30x23
def k30x21 : AC := .mask 2177
def k30x20 : AC := .seq (.cond (.tmp 58)
   (.seq (.ops false [
      ⟨(some 4), .move (.c (.sl .nil 0)), none, []⟩,
      ⟨(some 5), .move (.c (.sl .nil 0)), none, []⟩,
      ⟨(some 6), .move (.c (.int .i64 2)), none, []⟩]) k30x22)
   (.skip)) k30x21
def k30x32 : AC := .exit 2
def k30x31 : AC := .mask 4035225266123970689
def k30x39 : AC := .join 4035225266124011649
def k30x38 : AC := .seq (.cond (.tmp 70)
   (.ops false [
      ⟨(some 71), .move (.tmp 11), none, []⟩,
      ⟨(some 72), .fieldAddr 5 (.tmp 14), none, []⟩,
      ⟨(some 73), .load (.cell (.int .i64)) (.tmp 72), none, []⟩,
      ⟨(some 74), .indexAddr 1 (.tmp 71) (.tmp 73), none, []⟩,
      ⟨(some 75), .load (.cell (.int .i64)) (.tmp 74), none, []⟩,
      ⟨(some 76), .move (.tmp 11), none, []⟩,
      ⟨(some 77), .move (.tmp 13), none, []⟩,
      ⟨(some 78), .bin .other .add (.tmp 77) (.c (.int .i64 1)), none, []⟩,
      ⟨(some 79), .indexAddr 1 (.tmp 76) (.tmp 78), none, []⟩,
      ⟨(some 80), .load (.cell (.int .i64)) (.tmp 79), none, []⟩,
      ⟨(some 81), .bin .other .sub (.tmp 75) (.tmp 80), none, []⟩,
      ⟨(some 82), .fieldAddr 4 (.tmp 15), none, []⟩,
      ⟨none, .store 1 (.tmp 82) (.tmp 81), none, []⟩])
   (.skip)) k30x39
def k30x44 : AC := .join 4035225266124068993
def k30x43 : AC := .seq (.cond (.tmp 86)
   (.ops false [
      ⟨(some 16), .move (.c (.fn 23 [] [])), none, []⟩])
   (.skip)) k30x44
def k30x51 : AC := .ret
def k30x50 : AC := .seq (.mask 112) k30x51
def k30x49 : AC := .mask 4035225266124101761
def k30x48 : AC := .seq (.cond (.tmp 94)
   (.seq (.ops false [
      ⟨(some 95), .move (.tmp 18), none, []⟩,
      ⟨(some 4), .move (.c (.sl .nil 0)), none, []⟩,
      ⟨(some 5), .move (.c (.sl .nil 0)), none, []⟩,
      ⟨(some 6), .move (.tmp 95), none, []⟩]) k30x50)
   (.skip)) k30x49
def k30x47 : AC := .ops false [
    ⟨(some 96), .move (.tmp 12), none, []⟩,
    ⟨(some 97), .move (.tmp 17), none, []⟩,
    ⟨(some 98), .append [(.int .i64 0)] 1 8 (.tmp 96) (.tmp 97), none, []⟩,
    ⟨(some 12), .move (.tmp 98), none, []⟩]
def k30x46 : AC := .seq (.seq (.ops false [
    ⟨(some 93), .move (.tmp 18), none, []⟩,
    ⟨(some 94), .bin .other .neq (.tmp 93) (.c (.int .i64 0)), none, []⟩]) k30x48) k30x47
def k30x42 : AC := .seq (.ops false [
    ⟨(some 88), .move (.tmp 16), none, []⟩,
    ⟨(some 89), .load (.agg [(.int .i64), (.int .i64), (.int .i64), (.int .i64), (.int .i64)]) (.tmp 15), none, []⟩,
    ⟨(some 90), .callV (.tmp 88) [(.tmp 89)] [(.cell .sl), (.cell (.int .i64))] .opq, none, []⟩,
    ⟨(some 87), .move (.tmp 90), none, []⟩,
    ⟨(some 91), .extract (.tmp 87) 0, none, []⟩,
    ⟨(some 92), .extract (.tmp 87) 1, none, []⟩,
    ⟨(some 17), .move (.tmp 91), none, []⟩,
    ⟨(some 18), .move (.tmp 92), none, []⟩]) k30x46
def k30x41 : AC := .seq (.seq (.ops false [
    ⟨(some 83), .move (.tmp 7), none, []⟩,
    ⟨(some 84), .move (.tmp 13), none, []⟩,
    ⟨(some 85), .indexAddr 1 (.tmp 83) (.tmp 84), none, []⟩,
    ⟨(some 86), .load (.cell .bool) (.tmp 85), none, []⟩]) k30x43) k30x42
def k30x37 : AC := .seq (.ops false [
    ⟨(some 16), .move (.c (.fn 22 [] [])), none, []⟩]) k30x41
def k30x36 : AC := .seq (.seq (.ops false [
    ⟨(some 68), .fieldAddr 5 (.tmp 14), none, []⟩,
    ⟨(some 69), .load (.cell (.int .i64)) (.tmp 68), none, []⟩,
    ⟨(some 70), .bin .other .geq (.tmp 69) (.c (.int .i64 0)), none, []⟩]) k30x38) k30x37
def k30x35 : AC := .seq (.ops false [
    ⟨(some 66), .fieldAddr 0 (.tmp 14), none, []⟩,
    ⟨(some 67), .load (.agg [(.int .i64), (.int .i64), (.int .i64), (.int .i64), (.int .i64)]) (.tmp 66), none, []⟩,
    ⟨(some 15), .allocL [(.int .i64 0), (.int .i64 0), (.int .i64 0), (.int .i64 0), (.int .i64 0)], none, []⟩,
    ⟨none, .store 5 (.tmp 15) (.tmp 67), none, []⟩]) k30x36
def k30x34 : AC := .mask 4035225266123970689
def k30x33 : AC := .ops false [
    ⟨(some 99), .bin .other .add (.tmp 61) (.c (.int .i64 1)), none, []⟩,
    ⟨(some 61), .move (.tmp 99), none, []⟩]
def k30x30 : AC := .seq (.seq (.block 3 (.seq (.ops false [
     ⟨(some 63), .move (.tmp 61), none, []⟩,
     ⟨(some 64), .indexAddr 6 (.tmp 59) (.tmp 61), none, []⟩,
     ⟨(some 65), .load (.agg [(.int .i64), (.int .i64), (.int .i64), (.int .i64), (.int .i64), (.int .i64)]) (.tmp 64), none, []⟩,
     ⟨(some 14), .allocL (List.replicate 6 (.int .i64 0)), none, []⟩,
     ⟨(some 13), .move (.tmp 63), none, []⟩,
     ⟨none, .store 6 (.tmp 14) (.tmp 65), none, []⟩]) k30x35)) k30x34) k30x33
def k30x29 : AC := .seq (.seq (.cond (.tmp 62)
   (.skip)
   (.seq (.mask 6145) k30x32)) k30x31) k30x30
def k30x28 : AC := .seq (.ops false [
    ⟨(some 62), .bin .other .lss (.tmp 61) (.tmp 60), none, []⟩]) k30x29
def k30x27 : AC := .mask 6145
def k30x26 : AC := .seq (.block 2 (.loop 4035225266123970689 6145 k30x28)) k30x27
def k30x53 : AC := .ret
def k30x52 : AC := .seq (.mask 112) k30x53
def k30x25 : AC := .seq (.ops false [
    ⟨(some 100), .move (.tmp 12), none, []⟩,
    ⟨(some 101), .move (.tmp 11), none, []⟩,
    ⟨(some 102), .move (.tmp 0), none, []⟩,
    ⟨(some 103), .lenSl (.tmp 102), none, []⟩,
    ⟨(some 104), .slice 1 (.tmp 101) none (some (.tmp 103)), none, []⟩,
    ⟨(some 4), .move (.tmp 100), none, []⟩,
    ⟨(some 5), .move (.tmp 104), none, []⟩,
    ⟨(some 6), .move (.c (.int .i64 0)), none, []⟩]) k30x52
def k30x24 : AC := .seq (.seq (.ops false [
    ⟨(some 59), .move (.tmp 0), none, []⟩,
    ⟨(some 60), .lenSl (.tmp 59), none, []⟩,
    ⟨(some 61), .move (.c (.int .i64 0)), none, []⟩]) k30x26) k30x25
def k30x19 : AC := .seq (.ops false [
    ⟨(some 12), .move (.c (.sl .nil 0)), none, []⟩]) k30x24
def k30x18 : AC := .seq (.seq (.ops false [
    ⟨(some 53), .move (.tmp 11), none, []⟩,
    ⟨(some 54), .move (.tmp 0), none, []⟩,
    ⟨(some 55), .lenSl (.tmp 54), none, []⟩,
    ⟨(some 56), .indexAddr 1 (.tmp 53) (.tmp 55), none, []⟩,
    ⟨(some 57), .load (.cell (.int .i64)) (.tmp 56), none, []⟩,
    ⟨(some 58), .bin .other .gtr (.tmp 57) (.c (.int .i64 16384)), none, []⟩]) k30x20) k30x19
def k30x7 : AC := .seq (.ops false [
    ⟨(some 50), .move (.tmp 0), none, []⟩,
    ⟨(some 51), .move (.tmp 7), none, []⟩,
    ⟨(some 52), .call 43 [(.tmp 50), (.tmp 51)] [(.cell .sl)] (.sl .nil 0), none, []⟩,
    ⟨(some 11), .move (.tmp 52), none, []⟩]) k30x18
def k30x2 : AC := .seq (.seq (.ops false [
    ⟨(some 27), .move (.tmp 0), none, []⟩,
    ⟨(some 28), .lenSl (.tmp 27), none, []⟩,
    ⟨(some 29), .move (.c (.int .i64 0)), none, []⟩]) k30x8) k30x7
def k30x1 : AC := .seq (.seq (.ops false [
    ⟨(some 24), .move (.tmp 8), none, []⟩,
    ⟨(some 25), .bin .other .neq (.tmp 24) (.c (.int .i64 0)), none, []⟩]) k30x3) k30x2
def k30x0 : AC := .seq (.ops false [
    ⟨(some 20), .move (.tmp 0), none, []⟩,
    ⟨(some 21), .call 31 [(.tmp 20)] [(.cell .sl), (.cell (.int .i64))] .opq, none, []⟩,
    ⟨(some 19), .move (.tmp 21), none, []⟩,
    ⟨(some 22), .extract (.tmp 19) 0, none, []⟩,
    ⟨(some 23), .extract (.tmp 19) 1, none, []⟩,
    ⟨(some 7), .move (.tmp 22), none, []⟩,
    ⟨(some 8), .move (.tmp 23), none, []⟩]) k30x1
/-- provenance/relax.Encode -/
def c30 : AFn := ⟨105, [.tmp 4, .tmp 5, .tmp 6],
  .seq (.ops false [
    ⟨(some 4), .move (.c (.sl .nil 0)), none, []⟩,
    ⟨(some 5), .move (.c (.sl .nil 0)), none, []⟩,
    ⟨(some 6), .move (.c (.int .i64 0)), none, []⟩]) k30x0⟩
def S30xe0 (s0 : SA) (n0 : Nat) (s7 : SA) (n7 : Nat) (h : Heap) : St := ⟨(.g [] true (.sl s0 n0) :: (rep 6 (.g [] true (.sl s7 n7) :: (rep 97 [])))), h⟩
def S30xe2 (s0 : SA) (n0 : Nat) (s11 : SA) (n11 : Nat) (s12 : SA) (n12 : Nat) (h : Heap) : St := ⟨(.g [] true (.sl s0 n0) :: (rep 10 (.g [] true (.sl s11 n11) :: (.g [] true (.sl s12 n12) :: (rep 92 []))))), h⟩
def S30xr (s4 : SA) (n4 : Nat) (s5 : SA) (n5 : Nat) (i6 : Int) (h : Heap) : St := ⟨(rep 4 (.g [] true (.sl s4 n4) :: (.g [] true (.sl s5 n5) :: (.g [] true (.int .i64 i6) :: (rep 98 []))))), h⟩
noncomputable def Q30x10 (M : Mk) (C : Cal) : Kont (AV × Heap) := (blockQ 0 (seqQ (evalE M C k30x9) (seqQ (evalE M C k30x7) (endQ [.tmp 4, .tmp 5, .tmp 6]))))
noncomputable def L30x10 (s0 : SA) (n0 : Nat) (b1 : Bool) (s7 : SA) (n7 : Nat) (s27 : SA) (n27 : Nat) (i28 : Int) (i29 : Int) (h : Heap) (Q : Kont R) : Option R := loopE (evalE M C k30x10) 939524227 129 ⟨(.g [] true (.sl s0 n0) :: (.g [] true (.bool b1) :: (rep 5 (.g [] true (.sl s7 n7) :: (rep 19 (.g [] true (.sl s27 n27) :: (.g [] true (.int .i64 i28) :: (.g [] true (.int .i64 i29) :: (rep 75 []))))))))), h⟩ Q
noncomputable def Q30x28 (M : Mk) (C : Cal) : Kont (AV × Heap) := (blockQ 2 (seqQ (evalE M C k30x27) (seqQ (evalE M C k30x25) (endQ [.tmp 4, .tmp 5, .tmp 6]))))
noncomputable def L30x28 (s0 : SA) (n0 : Nat) (s7 : SA) (n7 : Nat) (s11 : SA) (n11 : Nat) (s12 : SA) (n12 : Nat) (s59 : SA) (n59 : Nat) (i60 : Int) (i61 : Int) (h : Heap) (Q : Kont R) : Option R := loopE (evalE M C k30x28) 4035225266123970689 6145 ⟨(.g [] true (.sl s0 n0) :: (rep 6 (.g [] true (.sl s7 n7) :: (rep 3 (.g [] true (.sl s11 n11) :: (.g [] true (.sl s12 n12) :: (rep 46 (.g [] true (.sl s59 n59) :: (.g [] true (.int .i64 i60) :: (.g [] true (.int .i64 i61) :: (rep 43 []))))))))))), h⟩ Q
noncomputable def J30x40 (M : Mk) (C : Cal) (s0 : SA) (n0 : Nat) (s7 : SA) (n7 : Nat) (s11 : SA) (n11 : Nat) (s12 : SA) (n12 : Nat) (i13 : Int) (i15x0 : Int) (i15x1 : Int) (i15x2 : Int) (i15x3 : Int) (i15x4 : Int) (s59 : SA) (n59 : Nat) (i60 : Int) (i61 : Int) (h : Heap) (Q : Kont R) : Option R := M R (seqQ (evalE M C k30x37) (blockQ 3 (seqQ (evalE M C k30x34) (seqQ (evalE M C k30x33) (roundQ M C k30x28 4035225266123970689 6145 Q))))) (.g [] true (.sl s0 n0) :: (rep 6 (.g [] true (.sl s7 n7) :: (rep 3 (.g [] true (.sl s11 n11) :: (.g [] true (.sl s12 n12) :: (.g [] true (.int .i64 i13) :: (.any :: (.box [(.int .i64 i15x0), (.int .i64 i15x1), (.int .i64 i15x2), (.int .i64 i15x3), (.int .i64 i15x4)] :: (rep 43 (.g [] true (.sl s59 n59) :: (.g [] true (.int .i64 i60) :: (.g [] true (.int .i64 i61) :: (rep 43 [])))))))))))))) h
noncomputable def J30x45 (M : Mk) (C : Cal) (s0 : SA) (n0 : Nat) (s7 : SA) (n7 : Nat) (s11 : SA) (n11 : Nat) (s12 : SA) (n12 : Nat) (i15x0 : Int) (i15x1 : Int) (i15x2 : Int) (i15x3 : Int) (i15x4 : Int) (v16 : AV) (s59 : SA) (n59 : Nat) (i60 : Int) (i61 : Int) (h : Heap) (Q : Kont R) : Option R := M R (seqQ (evalE M C k30x42) (blockQ 3 (seqQ (evalE M C k30x34) (seqQ (evalE M C k30x33) (roundQ M C k30x28 4035225266123970689 6145 Q))))) (.g [] true (.sl s0 n0) :: (rep 6 (.g [] true (.sl s7 n7) :: (rep 3 (.g [] true (.sl s11 n11) :: (.g [] true (.sl s12 n12) :: (.any :: .any :: (.box [(.int .i64 i15x0), (.int .i64 i15x1), (.int .i64 i15x2), (.int .i64 i15x3), (.int .i64 i15x4)] :: (.g [] true v16 :: (rep 42 (.g [] true (.sl s59 n59) :: (.g [] true (.int .i64 i60) :: (.g [] true (.int .i64 i61) :: (rep 43 [])))))))))))))) h
theorem r30 (s0 : SA) (n0 : Nat) (b1 : Bool) (h : Heap) : runE M C c30 [(.sl s0 n0), (.bool b1)] h = (
  (C 31 [(.sl s0 n0)] h).bind fun r21 =>
  gT 2 r21.1 true fun u21 =>
  gL (some (List.getD u21 0 .opq)) true fun s21x0 n21x0 =>
  gI .i64 (some (List.getD u21 1 .opq)) true fun i21x1 =>
  letK ((!decide ((i21x1 : Int) = 0)) : Bool) fun b25 =>
  if b25 = true then
    (
    some (.tup [(.sl .nil 0), (.sl .nil 0), (.int .i64 i21x1)], r21.2)
    )
  else
    (
    L30x10 M C s0 n0 b1 s21x0 n21x0 s0 n0 ((n0 : Nat) : Int) 0 r21.2 (Q30x10 M C)
    )
  ) := by kernel_rfl
theorem cf30 : cFn Try.prog 30 = some c30 := by kernel_rfl
theorem e30 (s0 : SA) (n0 : Nat) (b1 : Bool) (h : Heap) : E 30 [(.sl s0 n0), (.bool b1)] h = (
  (E 31 [(.sl s0 n0)] h).bind fun r21 =>
  gT 2 r21.1 true fun u21 =>
  gL (some (List.getD u21 0 .opq)) true fun s21x0 n21x0 =>
  gI .i64 (some (List.getD u21 1 .opq)) true fun i21x1 =>
  letK ((!decide ((i21x1 : Int) = 0)) : Bool) fun b25 =>
  if b25 = true then
    (
    some (.tup [(.sl .nil 0), (.sl .nil 0), (.int .i64 i21x1)], r21.2)
    )
  else
    (
    L30x10 mk0 E s0 n0 b1 s21x0 n21x0 s0 n0 ((n0 : Nat) : Int) 0 r21.2 (Q30x10 mk0 E)
    )
  ) := (EV_eq (P := Try.prog) (T := T0) rfl cf30 [(.sl s0 n0), (.bool b1)] h).trans (r30 mk0 E s0 n0 b1 h)
theorem L30x10xaux (s0 : SA) (n0 : Nat) (b1 : Bool) (s7 : SA) (n7 : Nat) (s27 : SA) (n27 : Nat) (i28 : Int) (i29 : Int) (h : Heap) (Q : Kont R) : (restrF 939524227 ⟨(.g [] true (.sl s0 n0) :: (.g [] true (.bool b1) :: (rep 5 (.g [] true (.sl s7 n7) :: (rep 19 (.g [] true (.sl s27 n27) :: (.g [] true (.int .i64 i28) :: (.g [] true (.int .i64 i29) :: (rep 75 []))))))))), h⟩ fun σ => evalE M C k30x10 σ (roundQ M C k30x10 939524227 129 Q)) = (
  letK ((decide ((i29 : Int) < i28)) : Bool) fun b30 =>
  if b30 = true then
    (
    chk (true = true → (0 : Int) ≤ i29 ∧ (i29 : Int) < ((n27 : Nat) : Int)) <|
    atP (adP s27) true fun a32 =>
    gCells (ldN h (Ad.add a32 (Int.toNat i29 * 6)) 6) true fun l33 =>
    gI .i64 (l33[0]?) true fun i33x0 =>
    gI .i64 (l33[1]?) true fun i33x1 =>
    gI .i64 (l33[2]?) true fun i33x2 =>
    gI .i64 (l33[3]?) true fun i33x3 =>
    gI .i64 (l33[4]?) true fun i33x4 =>
    gI .i64 (l33[5]?) true fun i33x5 =>
    chk (true = true → (0 : Int) ≤ i29 ∧ (i29 : Int) < ((n7 : Nat) : Int)) <|
    atP (adP s7) true fun a38 =>
    gB (ld1 h (Ad.add a38 (Int.toNat i29 * 1))) true fun b39 =>
    gI .i64 (some (.int .i64 i33x5)) (andB (!b39) b1) fun i44 =>
    letK ((decide ((0 : Int) ≤ i44)) : Bool) fun b45 =>
    letK ((if b1 = true then b45 else false) : Bool) fun b46 =>
    letK ((if b39 = true then true else b46) : Bool) fun b47 =>
    chk (true = true → (0 : Int) ≤ i29 ∧ (i29 : Int) < ((n7 : Nat) : Int)) <|
    atP (adP s7) true fun a48 =>
    (st1 h (Ad.add a48 (Int.toNat i29 * 1)) (.bool b47)).bind fun h_2 =>
    letK ((IntKind.wrap .i64 (i29 + 1)) : Int) fun i49 =>
    L30x10 M C s0 n0 b1 s7 n7 s27 n27 i28 i49 h_2 Q
    )
  else
    (
    Q (.exit 0) (S30xe0 s0 n0 s7 n7 h)
    )
  ) := by kernel_rfl
theorem L30x10xeq (s0 : SA) (n0 : Nat) (b1 : Bool) (s7 : SA) (n7 : Nat) (s27 : SA) (n27 : Nat) (i28 : Int) (i29 : Int) (h : Heap) (Q : Kont R) : L30x10 mk0 C s0 n0 b1 s7 n7 s27 n27 i28 i29 h Q = (
  letK ((decide ((i29 : Int) < i28)) : Bool) fun b30 =>
  if b30 = true then
    (
    chk (true = true → (0 : Int) ≤ i29 ∧ (i29 : Int) < ((n27 : Nat) : Int)) <|
    atP (adP s27) true fun a32 =>
    gCells (ldN h (Ad.add a32 (Int.toNat i29 * 6)) 6) true fun l33 =>
    gI .i64 (l33[0]?) true fun i33x0 =>
    gI .i64 (l33[1]?) true fun i33x1 =>
    gI .i64 (l33[2]?) true fun i33x2 =>
    gI .i64 (l33[3]?) true fun i33x3 =>
    gI .i64 (l33[4]?) true fun i33x4 =>
    gI .i64 (l33[5]?) true fun i33x5 =>
    chk (true = true → (0 : Int) ≤ i29 ∧ (i29 : Int) < ((n7 : Nat) : Int)) <|
    atP (adP s7) true fun a38 =>
    gB (ld1 h (Ad.add a38 (Int.toNat i29 * 1))) true fun b39 =>
    gI .i64 (some (.int .i64 i33x5)) (andB (!b39) b1) fun i44 =>
    letK ((decide ((0 : Int) ≤ i44)) : Bool) fun b45 =>
    letK ((if b1 = true then b45 else false) : Bool) fun b46 =>
    letK ((if b39 = true then true else b46) : Bool) fun b47 =>
    chk (true = true → (0 : Int) ≤ i29 ∧ (i29 : Int) < ((n7 : Nat) : Int)) <|
    atP (adP s7) true fun a48 =>
    (st1 h (Ad.add a48 (Int.toNat i29 * 1)) (.bool b47)).bind fun h_2 =>
    letK ((IntKind.wrap .i64 (i29 + 1)) : Int) fun i49 =>
    L30x10 mk0 C s0 n0 b1 s7 n7 s27 n27 i28 i49 h_2 Q
    )
  else
    (
    Q (.exit 0) (S30xe0 s0 n0 s7 n7 h)
    )
  ) := loop_eqn C k30x10 939524227 129 (.g [] true (.sl s0 n0) :: (.g [] true (.bool b1) :: (rep 5 (.g [] true (.sl s7 n7) :: (rep 19 (.g [] true (.sl s27 n27) :: (.g [] true (.int .i64 i28) :: (.g [] true (.int .i64 i29) :: (rep 75 []))))))))) h Q (by kernel_rfl) (L30x10xaux mk0 C s0 n0 b1 s7 n7 s27 n27 i28 i29 h Q)
theorem X30x10xe0 (M : Mk) (C : Cal) (s0 : SA) (n0 : Nat) (s7 : SA) (n7 : Nat) (h : Heap) : Q30x10 M C (.exit 0) (S30xe0 s0 n0 s7 n7 h) = (
  (C 43 [(.sl s0 n0), (.sl s7 n7)] h).bind fun r52 =>
  gL (some r52.1) true fun s52 n52 =>
  chk (true = true → (0 : Int) ≤ ((n0 : Nat) : Int) ∧ (((n0 : Nat) : Int) : Int) < ((n52 : Nat) : Int)) <|
  atP (adP s52) true fun a56 =>
  gI .i64 (ld1 r52.2 (Ad.add a56 (Int.toNat ((n0 : Nat) : Int) * 1))) true fun i57 =>
  letK ((decide ((16384 : Int) < i57)) : Bool) fun b58 =>
  if b58 = true then
    (
    some (.tup [(.sl .nil 0), (.sl .nil 0), (.int .i64 2)], r52.2)
    )
  else
    (
    L30x28 M C s0 n0 s7 n7 s52 n52 .nil 0 s0 n0 ((n0 : Nat) : Int) 0 r52.2 (Q30x28 M C)
    )
  ) := by kernel_rfl
theorem L30x28xaux (s0 : SA) (n0 : Nat) (s7 : SA) (n7 : Nat) (s11 : SA) (n11 : Nat) (s12 : SA) (n12 : Nat) (s59 : SA) (n59 : Nat) (i60 : Int) (i61 : Int) (h : Heap) (Q : Kont R) : (restrF 4035225266123970689 ⟨(.g [] true (.sl s0 n0) :: (rep 6 (.g [] true (.sl s7 n7) :: (rep 3 (.g [] true (.sl s11 n11) :: (.g [] true (.sl s12 n12) :: (rep 46 (.g [] true (.sl s59 n59) :: (.g [] true (.int .i64 i60) :: (.g [] true (.int .i64 i61) :: (rep 43 []))))))))))), h⟩ fun σ => evalE M C k30x28 σ (roundQ M C k30x28 4035225266123970689 6145 Q)) = (
  letK ((decide ((i61 : Int) < i60)) : Bool) fun b62 =>
  if b62 = true then
    (
    chk (true = true → (0 : Int) ≤ i61 ∧ (i61 : Int) < ((n59 : Nat) : Int)) <|
    atP (adP s59) true fun a64 =>
    gCells (ldN h (Ad.add a64 (Int.toNat i61 * 6)) 6) true fun l65 =>
    gI .i64 (l65[0]?) true fun i65x0 =>
    gI .i64 (l65[1]?) true fun i65x1 =>
    gI .i64 (l65[2]?) true fun i65x2 =>
    gI .i64 (l65[3]?) true fun i65x3 =>
    gI .i64 (l65[4]?) true fun i65x4 =>
    gI .i64 (l65[5]?) true fun i65x5 =>
    letK ((decide ((0 : Int) ≤ i65x5)) : Bool) fun b70 =>
    if b70 = true then
      (
      chk (true = true → (0 : Int) ≤ i65x5 ∧ (i65x5 : Int) < ((n11 : Nat) : Int)) <|
      atP (adP s11) true fun a74 =>
      gI .i64 (ld1 h (Ad.add a74 (Int.toNat i65x5 * 1))) true fun i75 =>
      letK ((IntKind.wrap .i64 (i61 + 1)) : Int) fun i78 =>
      chk (true = true → (0 : Int) ≤ i78 ∧ (i78 : Int) < ((n11 : Nat) : Int)) <|
      atP (adP s11) true fun a79 =>
      gI .i64 (ld1 h (Ad.add a79 (Int.toNat i78 * 1))) true fun i80 =>
      letK ((IntKind.wrap .i64 (i75 - i80)) : Int) fun i81 =>
      J30x40 M C s0 n0 s7 n7 s11 n11 s12 n12 i61 i65x0 i65x1 i65x2 i65x3 i81 s59 n59 i60 i61 h Q
      )
    else
      (
      J30x40 M C s0 n0 s7 n7 s11 n11 s12 n12 i61 i65x0 i65x1 i65x2 i65x3 i65x4 s59 n59 i60 i61 h Q
      )
    )
  else
    (
    Q (.exit 2) (S30xe2 s0 n0 s11 n11 s12 n12 h)
    )
  ) := by kernel_rfl
theorem L30x28xeq (s0 : SA) (n0 : Nat) (s7 : SA) (n7 : Nat) (s11 : SA) (n11 : Nat) (s12 : SA) (n12 : Nat) (s59 : SA) (n59 : Nat) (i60 : Int) (i61 : Int) (h : Heap) (Q : Kont R) : L30x28 mk0 C s0 n0 s7 n7 s11 n11 s12 n12 s59 n59 i60 i61 h Q = (
  letK ((decide ((i61 : Int) < i60)) : Bool) fun b62 =>
  if b62 = true then
    (
    chk (true = true → (0 : Int) ≤ i61 ∧ (i61 : Int) < ((n59 : Nat) : Int)) <|
    atP (adP s59) true fun a64 =>
    gCells (ldN h (Ad.add a64 (Int.toNat i61 * 6)) 6) true fun l65 =>
    gI .i64 (l65[0]?) true fun i65x0 =>
    gI .i64 (l65[1]?) true fun i65x1 =>
    gI .i64 (l65[2]?) true fun i65x2 =>
    gI .i64 (l65[3]?) true fun i65x3 =>
    gI .i64 (l65[4]?) true fun i65x4 =>
    gI .i64 (l65[5]?) true fun i65x5 =>
    letK ((decide ((0 : Int) ≤ i65x5)) : Bool) fun b70 =>
    if b70 = true then
      (
      chk (true = true → (0 : Int) ≤ i65x5 ∧ (i65x5 : Int) < ((n11 : Nat) : Int)) <|
      atP (adP s11) true fun a74 =>
      gI .i64 (ld1 h (Ad.add a74 (Int.toNat i65x5 * 1))) true fun i75 =>
      letK ((IntKind.wrap .i64 (i61 + 1)) : Int) fun i78 =>
      chk (true = true → (0 : Int) ≤ i78 ∧ (i78 : Int) < ((n11 : Nat) : Int)) <|
      atP (adP s11) true fun a79 =>
      gI .i64 (ld1 h (Ad.add a79 (Int.toNat i78 * 1))) true fun i80 =>
      letK ((IntKind.wrap .i64 (i75 - i80)) : Int) fun i81 =>
      J30x40 mk0 C s0 n0 s7 n7 s11 n11 s12 n12 i61 i65x0 i65x1 i65x2 i65x3 i81 s59 n59 i60 i61 h Q
      )
    else
      (
      J30x40 mk0 C s0 n0 s7 n7 s11 n11 s12 n12 i61 i65x0 i65x1 i65x2 i65x3 i65x4 s59 n59 i60 i61 h Q
      )
    )
  else
    (
    Q (.exit 2) (S30xe2 s0 n0 s11 n11 s12 n12 h)
    )
  ) := loop_eqn C k30x28 4035225266123970689 6145 (.g [] true (.sl s0 n0) :: (rep 6 (.g [] true (.sl s7 n7) :: (rep 3 (.g [] true (.sl s11 n11) :: (.g [] true (.sl s12 n12) :: (rep 46 (.g [] true (.sl s59 n59) :: (.g [] true (.int .i64 i60) :: (.g [] true (.int .i64 i61) :: (rep 43 []))))))))))) h Q (by kernel_rfl) (L30x28xaux mk0 C s0 n0 s7 n7 s11 n11 s12 n12 s59 n59 i60 i61 h Q)
theorem J30x40xaux (M : Mk) (C : Cal) (s0 : SA) (n0 : Nat) (s7 : SA) (n7 : Nat) (s11 : SA) (n11 : Nat) (s12 : SA) (n12 : Nat) (i13 : Int) (i15x0 : Int) (i15x1 : Int) (i15x2 : Int) (i15x3 : Int) (i15x4 : Int) (s59 : SA) (n59 : Nat) (i60 : Int) (i61 : Int) (h : Heap) (Q : Kont R) : (forceK tk (.g [] true (.sl s0 n0) :: (rep 6 (.g [] true (.sl s7 n7) :: (rep 3 (.g [] true (.sl s11 n11) :: (.g [] true (.sl s12 n12) :: (.g [] true (.int .i64 i13) :: (.any :: (.box [(.int .i64 i15x0), (.int .i64 i15x1), (.int .i64 i15x2), (.int .i64 i15x3), (.int .i64 i15x4)] :: (rep 43 (.g [] true (.sl s59 n59) :: (.g [] true (.int .i64 i60) :: (.g [] true (.int .i64 i61) :: (rep 43 [])))))))))))))) fun e => (seqQ (evalE M C k30x37) (blockQ 3 (seqQ (evalE M C k30x34) (seqQ (evalE M C k30x33) (roundQ M C k30x28 4035225266123970689 6145 Q))))) .normal ⟨e, h⟩) = (
  chk (true = true → (0 : Int) ≤ i13 ∧ (i13 : Int) < ((n7 : Nat) : Int)) <|
  atP (adP s7) true fun a85 =>
  gB (ld1 h (Ad.add a85 (Int.toNat i13 * 1))) true fun b86 =>
  if b86 = true then
    (
    J30x45 M C s0 n0 s7 n7 s11 n11 s12 n12 i15x0 i15x1 i15x2 i15x3 i15x4 (.fn 23 [] []) s59 n59 i60 i61 h Q
    )
  else
    (
    J30x45 M C s0 n0 s7 n7 s11 n11 s12 n12 i15x0 i15x1 i15x2 i15x3 i15x4 (.fn 22 [] []) s59 n59 i60 i61 h Q
    )
  ) := by kernel_rfl
theorem J30x40xeq (C : Cal) (s0 : SA) (n0 : Nat) (s7 : SA) (n7 : Nat) (s11 : SA) (n11 : Nat) (s12 : SA) (n12 : Nat) (i13 : Int) (i15x0 : Int) (i15x1 : Int) (i15x2 : Int) (i15x3 : Int) (i15x4 : Int) (s59 : SA) (n59 : Nat) (i60 : Int) (i61 : Int) (h : Heap) (Q : Kont R) : J30x40 mk0 C s0 n0 s7 n7 s11 n11 s12 n12 i13 i15x0 i15x1 i15x2 i15x3 i15x4 s59 n59 i60 i61 h Q = (
  chk (true = true → (0 : Int) ≤ i13 ∧ (i13 : Int) < ((n7 : Nat) : Int)) <|
  atP (adP s7) true fun a85 =>
  gB (ld1 h (Ad.add a85 (Int.toNat i13 * 1))) true fun b86 =>
  if b86 = true then
    (
    J30x45 mk0 C s0 n0 s7 n7 s11 n11 s12 n12 i15x0 i15x1 i15x2 i15x3 i15x4 (.fn 23 [] []) s59 n59 i60 i61 h Q
    )
  else
    (
    J30x45 mk0 C s0 n0 s7 n7 s11 n11 s12 n12 i15x0 i15x1 i15x2 i15x3 i15x4 (.fn 22 [] []) s59 n59 i60 i61 h Q
    )
  ) := join_eqn (seqQ (evalE mk0 C k30x37) (blockQ 3 (seqQ (evalE mk0 C k30x34) (seqQ (evalE mk0 C k30x33) (roundQ mk0 C k30x28 4035225266123970689 6145 Q))))) (.g [] true (.sl s0 n0) :: (rep 6 (.g [] true (.sl s7 n7) :: (rep 3 (.g [] true (.sl s11 n11) :: (.g [] true (.sl s12 n12) :: (.g [] true (.int .i64 i13) :: (.any :: (.box [(.int .i64 i15x0), (.int .i64 i15x1), (.int .i64 i15x2), (.int .i64 i15x3), (.int .i64 i15x4)] :: (rep 43 (.g [] true (.sl s59 n59) :: (.g [] true (.int .i64 i60) :: (.g [] true (.int .i64 i61) :: (rep 43 [])))))))))))))) h (J30x40xaux mk0 C s0 n0 s7 n7 s11 n11 s12 n12 i13 i15x0 i15x1 i15x2 i15x3 i15x4 s59 n59 i60 i61 h Q)
theorem J30x45xaux (M : Mk) (C : Cal) (s0 : SA) (n0 : Nat) (s7 : SA) (n7 : Nat) (s11 : SA) (n11 : Nat) (s12 : SA) (n12 : Nat) (i15x0 : Int) (i15x1 : Int) (i15x2 : Int) (i15x3 : Int) (i15x4 : Int) (v16 : AV) (s59 : SA) (n59 : Nat) (i60 : Int) (i61 : Int) (h : Heap) (Q : Kont R) : (forceK tk (.g [] true (.sl s0 n0) :: (rep 6 (.g [] true (.sl s7 n7) :: (rep 3 (.g [] true (.sl s11 n11) :: (.g [] true (.sl s12 n12) :: (.any :: .any :: (.box [(.int .i64 i15x0), (.int .i64 i15x1), (.int .i64 i15x2), (.int .i64 i15x3), (.int .i64 i15x4)] :: (.g [] true v16 :: (rep 42 (.g [] true (.sl s59 n59) :: (.g [] true (.int .i64 i60) :: (.g [] true (.int .i64 i61) :: (rep 43 [])))))))))))))) fun e => (seqQ (evalE M C k30x42) (blockQ 3 (seqQ (evalE M C k30x34) (seqQ (evalE M C k30x33) (roundQ M C k30x28 4035225266123970689 6145 Q))))) .normal ⟨e, h⟩) = (
  fnK v16 fun f90 a90 c90 =>
  (C f90 (a90 ++ [(.agg [(.int .i64 i15x0), (.int .i64 i15x1), (.int .i64 i15x2), (.int .i64 i15x3), (.int .i64 i15x4)])] ++ c90) h).bind fun r90 =>
  gT 2 r90.1 true fun u90 =>
  gL (some (List.getD u90 0 .opq)) true fun s90x0 n90x0 =>
  gI .i64 (some (List.getD u90 1 .opq)) true fun i90x1 =>
  letK ((!decide ((i90x1 : Int) = 0)) : Bool) fun b94 =>
  if b94 = true then
    (
    Q .ret (S30xr .nil 0 .nil 0 i90x1 r90.2)
    )
  else
    (
    (ldSl r90.2 s90x0 (n90x0 * 1)).bind fun y98 =>
    (apnd r90.2 (.sl s12 n12) 1 8 y98 n90x0).bind fun r98 =>
    gL (some r98.1) true fun s98 n98 =>
    letK ((IntKind.wrap .i64 (i61 + 1)) : Int) fun i99 =>
    L30x28 M C s0 n0 s7 n7 s11 n11 s98 n98 s59 n59 i60 i99 r98.2 Q
    )
  ) := by kernel_rfl
theorem J30x45xeq (C : Cal) (s0 : SA) (n0 : Nat) (s7 : SA) (n7 : Nat) (s11 : SA) (n11 : Nat) (s12 : SA) (n12 : Nat) (i15x0 : Int) (i15x1 : Int) (i15x2 : Int) (i15x3 : Int) (i15x4 : Int) (v16 : AV) (s59 : SA) (n59 : Nat) (i60 : Int) (i61 : Int) (h : Heap) (Q : Kont R) : J30x45 mk0 C s0 n0 s7 n7 s11 n11 s12 n12 i15x0 i15x1 i15x2 i15x3 i15x4 v16 s59 n59 i60 i61 h Q = (
  fnK v16 fun f90 a90 c90 =>
  (C f90 (a90 ++ [(.agg [(.int .i64 i15x0), (.int .i64 i15x1), (.int .i64 i15x2), (.int .i64 i15x3), (.int .i64 i15x4)])] ++ c90) h).bind fun r90 =>
  gT 2 r90.1 true fun u90 =>
  gL (some (List.getD u90 0 .opq)) true fun s90x0 n90x0 =>
  gI .i64 (some (List.getD u90 1 .opq)) true fun i90x1 =>
  letK ((!decide ((i90x1 : Int) = 0)) : Bool) fun b94 =>
  if b94 = true then
    (
    Q .ret (S30xr .nil 0 .nil 0 i90x1 r90.2)
    )
  else
    (
    (ldSl r90.2 s90x0 (n90x0 * 1)).bind fun y98 =>
    (apnd r90.2 (.sl s12 n12) 1 8 y98 n90x0).bind fun r98 =>
    gL (some r98.1) true fun s98 n98 =>
    letK ((IntKind.wrap .i64 (i61 + 1)) : Int) fun i99 =>
    L30x28 mk0 C s0 n0 s7 n7 s11 n11 s98 n98 s59 n59 i60 i99 r98.2 Q
    )
  ) := join_eqn (seqQ (evalE mk0 C k30x42) (blockQ 3 (seqQ (evalE mk0 C k30x34) (seqQ (evalE mk0 C k30x33) (roundQ mk0 C k30x28 4035225266123970689 6145 Q))))) (.g [] true (.sl s0 n0) :: (rep 6 (.g [] true (.sl s7 n7) :: (rep 3 (.g [] true (.sl s11 n11) :: (.g [] true (.sl s12 n12) :: (.any :: .any :: (.box [(.int .i64 i15x0), (.int .i64 i15x1), (.int .i64 i15x2), (.int .i64 i15x3), (.int .i64 i15x4)] :: (.g [] true v16 :: (rep 42 (.g [] true (.sl s59 n59) :: (.g [] true (.int .i64 i60) :: (.g [] true (.int .i64 i61) :: (rep 43 [])))))))))))))) h (J30x45xaux mk0 C s0 n0 s7 n7 s11 n11 s12 n12 i15x0 i15x1 i15x2 i15x3 i15x4 v16 s59 n59 i60 i61 h Q)
theorem X30x28xe2 (M : Mk) (C : Cal) (s0 : SA) (n0 : Nat) (s11 : SA) (n11 : Nat) (s12 : SA) (n12 : Nat) (h : Heap) : Q30x28 M C (.exit 2) (S30xe2 s0 n0 s11 n11 s12 n12 h) = (
  chkC (true = true → (0 : Int) ≤ ((n0 : Nat) : Int) ∧ hiOk h s11 n11 1 ((n0 : Nat) : Int)) <|
  letK ((Int.toNat ((n0 : Nat) : Int)) : Nat) fun n104 =>
  some (.tup [(.sl s12 n12), (.sl s11 n104), (.int .i64 0)], h)
  ) := by kernel_rfl
theorem X30x28xr (M : Mk) (C : Cal) (s4 : SA) (n4 : Nat) (s5 : SA) (n5 : Nat) (i6 : Int) (h : Heap) : Q30x28 M C .ret (S30xr s4 n4 s5 n5 i6 h) = (
  some (.tup [(.sl s4 n4), (.sl s5 n5), (.int .i64 i6)], h)
  ) := by kernel_rfl
end
end Go.Proofs.Ytmfmnbldngfelaa.I
