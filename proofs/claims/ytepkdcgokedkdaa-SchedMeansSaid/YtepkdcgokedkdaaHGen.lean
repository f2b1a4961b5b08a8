/- Parts of the proof, printed. -/
import Derived.Test.YtepkdcgokedkdaaLibD
import Derived.Test.YtepkdcgokedkdaaConHa
import Derived.KernelRfl
set_option linter.unusedVariables false
set_option maxRecDepth 100000
namespace Go.Proofs.Ytepkdcgokedkdaa.H
open Go Go.Proofs.Ytepkdcgokedkdaa.Abs Go.Proofs
abbrev rep (n : Nat) (l : List SV) : List SV := List.replicate n .any ++ l
noncomputable def E : Cal := EV Try.prog T0
section
variable {R : Type} (M : Mk) (C : Cal)
def k41x2 : AC := .ret
def k41x1 : AC := .seq (.mask 64) k41x2
def k41x0 : AC := .seq (.ops true [
    ⟨(some 7), .move (.tmp 0), none, []⟩,
    ⟨(some 8), .move (.tmp 1), none, []⟩,
    ⟨(some 9), .bin .other .geq (.tmp 7) (.tmp 8), none, []⟩,
    ⟨(some 10), .move (.tmp 9), none, []⟩,
    ⟨(some 11), .move (.tmp 0), (some (10, true)), []⟩,
    ⟨(some 12), .move (.tmp 2), (some (10, true)), []⟩,
    ⟨(some 13), .bin .other .leq (.tmp 11) (.tmp 12), (some (10, true)), []⟩,
    ⟨(some 14), .pick (.tmp 10) (.tmp 13) (.c (.bool false)), none, []⟩,
    ⟨(some 6), .move (.tmp 14), none, []⟩]) k41x1
/-- provenance/insn.in -/
def c41 : AFn := ⟨15, [.tmp 6],
  .seq (.ops false [
    ⟨(some 6), .move (.c (.bool false)), none, []⟩]) k41x0⟩
theorem r41 (i0 : Int) (i1 : Int) (i2 : Int) (h : Heap) : runE M C c41 [(.int .i64 i0), (.int .i64 i1), (.int .i64 i2)] h = (
  letK ((decide ((i1 : Int) ≤ i0)) : Bool) fun b9 =>
  letK ((decide ((i0 : Int) ≤ i2)) : Bool) fun b13 =>
  letK ((if b9 = true then b13 else false) : Bool) fun b14 =>
  some ((.bool b14), h)
  ) := by kernel_rfl
theorem cf41 : cFn Try.prog 41 = some c41 := by kernel_rfl
theorem e41 (i0 : Int) (i1 : Int) (i2 : Int) (h : Heap) : E 41 [(.int .i64 i0), (.int .i64 i1), (.int .i64 i2)] h = (
  letK ((decide ((i1 : Int) ≤ i0)) : Bool) fun b9 =>
  letK ((decide ((i0 : Int) ≤ i2)) : Bool) fun b13 =>
  letK ((if b9 = true then b13 else false) : Bool) fun b14 =>
  some ((.bool b14), h)
  ) := (EV_eq (P := Try.prog) (T := T0) rfl cf41 [(.int .i64 i0), (.int .i64 i1), (.int .i64 i2)] h).trans (r41 mk0 E i0 i1 i2 h)
def k42x6 : AC := .join 28
def k42x5 : AC := .seq (.cond (.tmp 4)
   (.skip)
   (.ops false [
      ⟨(some 6), .bin .other .eql (.tmp 3) (.c (.int .i64 22)), none, []⟩,
      ⟨(some 4), .move (.tmp 6), none, []⟩])) k42x6
def k42x10 : AC := .ret
def k42x9 : AC := .seq (.mask 4) k42x10
def k42x25 : AC := .join 268
def k42x24 : AC := .seq (.cond (.tmp 8)
   (.skip)
   (.ops false [
      ⟨(some 16), .bin .other .eql (.tmp 3) (.c (.int .i64 15)), none, []⟩,
      ⟨(some 8), .move (.tmp 16), none, []⟩])) k42x25
def k42x23 : AC := .join 268
def k42x22 : AC := .seq (.cond (.tmp 8)
   (.skip)
   (.seq (.ops false [
      ⟨(some 15), .bin .other .eql (.tmp 3) (.c (.int .i64 7)), none, []⟩,
      ⟨(some 8), .move (.tmp 15), none, []⟩]) k42x24)) k42x23
def k42x21 : AC := .join 268
def k42x20 : AC := .seq (.cond (.tmp 8)
   (.skip)
   (.seq (.ops false [
      ⟨(some 14), .bin .other .eql (.tmp 3) (.c (.int .i64 6)), none, []⟩,
      ⟨(some 8), .move (.tmp 14), none, []⟩]) k42x22)) k42x21
def k42x19 : AC := .join 268
def k42x18 : AC := .seq (.cond (.tmp 8)
   (.skip)
   (.seq (.ops false [
      ⟨(some 13), .bin .other .eql (.tmp 3) (.c (.int .i64 5)), none, []⟩,
      ⟨(some 8), .move (.tmp 13), none, []⟩]) k42x20)) k42x19
def k42x17 : AC := .join 268
def k42x16 : AC := .seq (.cond (.tmp 8)
   (.skip)
   (.seq (.ops false [
      ⟨(some 12), .bin .other .eql (.tmp 3) (.c (.int .i64 4)), none, []⟩,
      ⟨(some 8), .move (.tmp 12), none, []⟩]) k42x18)) k42x17
def k42x15 : AC := .join 268
def k42x14 : AC := .seq (.cond (.tmp 8)
   (.skip)
   (.seq (.ops false [
      ⟨(some 11), .bin .other .eql (.tmp 3) (.c (.int .i64 3)), none, []⟩,
      ⟨(some 8), .move (.tmp 11), none, []⟩]) k42x16)) k42x15
def k42x13 : AC := .join 268
def k42x12 : AC := .seq (.cond (.tmp 8)
   (.skip)
   (.seq (.ops false [
      ⟨(some 10), .bin .other .eql (.tmp 3) (.c (.int .i64 2)), none, []⟩,
      ⟨(some 8), .move (.tmp 10), none, []⟩]) k42x14)) k42x13
def k42x35 : AC := .ret
def k42x34 : AC := .seq (.mask 4) k42x35
def k42x42 : AC := .join 262156
def k42x41 : AC := .seq (.cond (.tmp 18)
   (.skip)
   (.ops false [
      ⟨(some 22), .bin .other .eql (.tmp 3) (.c (.int .i64 12)), none, []⟩,
      ⟨(some 18), .move (.tmp 22), none, []⟩])) k42x42
def k42x40 : AC := .join 262156
def k42x39 : AC := .seq (.cond (.tmp 18)
   (.skip)
   (.seq (.ops false [
      ⟨(some 21), .bin .other .eql (.tmp 3) (.c (.int .i64 10)), none, []⟩,
      ⟨(some 18), .move (.tmp 21), none, []⟩]) k42x41)) k42x40
def k42x38 : AC := .join 262156
def k42x37 : AC := .seq (.cond (.tmp 18)
   (.skip)
   (.seq (.ops false [
      ⟨(some 20), .bin .other .eql (.tmp 3) (.c (.int .i64 9)), none, []⟩,
      ⟨(some 18), .move (.tmp 20), none, []⟩]) k42x39)) k42x38
def k42x48 : AC := .ret
def k42x47 : AC := .seq (.mask 4) k42x48
def k42x52 : AC := .ret
def k42x51 : AC := .seq (.mask 4) k42x52
def k42x59 : AC := .join 134217740
def k42x58 : AC := .seq (.cond (.tmp 27)
   (.skip)
   (.ops false [
      ⟨(some 31), .bin .other .eql (.tmp 3) (.c (.int .i64 18)), none, []⟩,
      ⟨(some 27), .move (.tmp 31), none, []⟩])) k42x59
def k42x57 : AC := .join 134217740
def k42x56 : AC := .seq (.cond (.tmp 27)
   (.skip)
   (.seq (.ops false [
      ⟨(some 30), .bin .other .eql (.tmp 3) (.c (.int .i64 17)), none, []⟩,
      ⟨(some 27), .move (.tmp 30), none, []⟩]) k42x58)) k42x57
def k42x55 : AC := .join 134217740
def k42x54 : AC := .seq (.cond (.tmp 27)
   (.skip)
   (.seq (.ops false [
      ⟨(some 29), .bin .other .eql (.tmp 3) (.c (.int .i64 16)), none, []⟩,
      ⟨(some 27), .move (.tmp 29), none, []⟩]) k42x56)) k42x55
def k42x65 : AC := .ret
def k42x64 : AC := .seq (.mask 4) k42x65
def k42x69 : AC := .ret
def k42x68 : AC := .seq (.mask 4) k42x69
def k42x74 : AC := .join 68719476740
def k42x73 : AC := .seq (.cond (.tmp 36)
   (.skip)
   (.ops false [
      ⟨(some 39), .bin .other .eql (.tmp 3) (.c (.int .i64 24)), none, []⟩,
      ⟨(some 36), .move (.tmp 39), none, []⟩])) k42x74
def k42x72 : AC := .join 68719476740
def k42x71 : AC := .seq (.cond (.tmp 36)
   (.skip)
   (.seq (.ops false [
      ⟨(some 38), .bin .other .eql (.tmp 3) (.c (.int .i64 20)), none, []⟩,
      ⟨(some 36), .move (.tmp 38), none, []⟩]) k42x73)) k42x72
def k42x79 : AC := .ret
def k42x78 : AC := .seq (.mask 4) k42x79
def k42x77 : AC := .mask 4
def k42x70 : AC := .seq (.cond (.tmp 36)
   (.seq (.ops false [
      ⟨(some 40), .build [(.bool false), (.bool false), (.bool false), (.bool false)] [(3, 1, (.c (.bool true)))], none, []⟩,
      ⟨none, .store 4 (.tmp 2) (.tmp 40), none, []⟩]) k42x78)
   (.skip)) k42x77
def k42x67 : AC := .mask 4
def k42x66 : AC := .seq (.cond (.tmp 33)
   (.seq (.ops false [
      ⟨(some 35), .build [(.bool false), (.bool false), (.bool false), (.bool false)] [(0, 1, (.c (.bool true))), (2, 1, (.c (.bool true))), (3, 1, (.c (.bool true)))], none, []⟩,
      ⟨none, .store 4 (.tmp 2) (.tmp 35), none, []⟩]) k42x68)
   (.seq (.seq (.ops false [
      ⟨(some 37), .bin .other .eql (.tmp 3) (.c (.int .i64 19)), none, []⟩,
      ⟨(some 36), .move (.tmp 37), none, []⟩]) k42x71) k42x70)) k42x67
def k42x63 : AC := .mask 4
def k42x53 : AC := .seq (.cond (.tmp 27)
   (.seq (.ops false [
      ⟨(some 32), .build [(.bool false), (.bool false), (.bool false), (.bool false)] [(1, 1, (.c (.bool true))), (2, 1, (.c (.bool true))), (3, 1, (.c (.bool true)))], none, []⟩,
      ⟨none, .store 4 (.tmp 2) (.tmp 32), none, []⟩]) k42x64)
   (.seq (.ops false [
      ⟨(some 34), .bin .other .eql (.tmp 3) (.c (.int .i64 14)), none, []⟩,
      ⟨(some 33), .move (.tmp 34), none, []⟩]) k42x66)) k42x63
def k42x50 : AC := .mask 4
def k42x49 : AC := .seq (.cond (.tmp 24)
   (.seq (.ops false [
      ⟨(some 26), .build [(.bool false), (.bool false), (.bool false), (.bool false)] [(0, 1, (.c (.bool true))), (3, 1, (.c (.bool true)))], none, []⟩,
      ⟨none, .store 4 (.tmp 2) (.tmp 26), none, []⟩]) k42x51)
   (.seq (.seq (.ops false [
      ⟨(some 28), .bin .other .eql (.tmp 3) (.c (.int .i64 13)), none, []⟩,
      ⟨(some 27), .move (.tmp 28), none, []⟩]) k42x54) k42x53)) k42x50
def k42x46 : AC := .mask 4
def k42x36 : AC := .seq (.cond (.tmp 18)
   (.seq (.ops false [
      ⟨(some 23), .build [(.bool false), (.bool false), (.bool false), (.bool false)] [(0, 1, (.c (.bool true))), (1, 1, (.c (.bool true))), (3, 1, (.c (.bool true)))], none, []⟩,
      ⟨none, .store 4 (.tmp 2) (.tmp 23), none, []⟩]) k42x47)
   (.seq (.ops false [
      ⟨(some 25), .bin .other .eql (.tmp 3) (.c (.int .i64 11)), none, []⟩,
      ⟨(some 24), .move (.tmp 25), none, []⟩]) k42x49)) k42x46
def k42x33 : AC := .mask 4
def k42x11 : AC := .seq (.cond (.tmp 8)
   (.seq (.ops false [
      ⟨(some 17), .build [(.bool false), (.bool false), (.bool false), (.bool false)] [(0, 1, (.c (.bool true))), (1, 1, (.c (.bool true))), (2, 1, (.c (.bool true)))], none, []⟩,
      ⟨none, .store 4 (.tmp 2) (.tmp 17), none, []⟩]) k42x34)
   (.seq (.seq (.ops false [
      ⟨(some 19), .bin .other .eql (.tmp 3) (.c (.int .i64 8)), none, []⟩,
      ⟨(some 18), .move (.tmp 19), none, []⟩]) k42x37) k42x36)) k42x33
def k42x8 : AC := .mask 4
def k42x4 : AC := .seq (.cond (.tmp 4)
   (.seq (.ops false [
      ⟨(some 7), .build [(.bool false), (.bool false), (.bool false), (.bool false)] [], none, []⟩,
      ⟨none, .store 4 (.tmp 2) (.tmp 7), none, []⟩]) k42x9)
   (.seq (.seq (.ops false [
      ⟨(some 9), .bin .other .eql (.tmp 3) (.c (.int .i64 1)), none, []⟩,
      ⟨(some 8), .move (.tmp 9), none, []⟩]) k42x12) k42x11)) k42x8
def k42x3 : AC := .mask 4
def k42x2 : AC := .seq (.block 0 (.seq (.seq (.ops false [
     ⟨(some 5), .bin .other .eql (.tmp 3) (.c (.int .i64 0)), none, []⟩,
     ⟨(some 4), .move (.tmp 5), none, []⟩]) k42x5) k42x4)) k42x3
def k42x81 : AC := .ret
def k42x80 : AC := .seq (.mask 4) k42x81
def k42x1 : AC := .seq (.ops false [
    ⟨(some 41), .build [(.bool false), (.bool false), (.bool false), (.bool false)] [(1, 1, (.c (.bool true)))], none, []⟩,
    ⟨none, .store 4 (.tmp 2) (.tmp 41), none, []⟩]) k42x80
def k42x0 : AC := .seq (.seq (.ops false [
    ⟨(some 3), .move (.tmp 0), none, []⟩]) k42x2) k42x1
/-- provenance/insn.used -/
def c42 : AFn := ⟨42, [.cell 2 (.agg [.bool, .bool, .bool, .bool])],
  .seq (.ops false [
    ⟨(some 2), .allocL [(.bool false), (.bool false), (.bool false), (.bool false)], none, []⟩]) k42x0⟩
noncomputable def J42x7 (M : Mk) (C : Cal) (b2x0 : Bool) (b2x1 : Bool) (b2x2 : Bool) (b2x3 : Bool) (i3 : Int) (b4 : Bool) (h : Heap) : Res := M (AV × Heap) (seqQ (evalE M C k42x4) (blockQ 0 (seqQ (evalE M C k42x3) (seqQ (evalE M C k42x1) (endQ [.cell 2 (.agg [.bool, .bool, .bool, .bool])]))))) (.any :: .any :: (.box [(.bool b2x0), (.bool b2x1), (.bool b2x2), (.bool b2x3)] :: (.g [] true (.int .i64 i3) :: (.g [] true (.bool b4) :: (rep 37 []))))) h
noncomputable def J42x32 (M : Mk) (C : Cal) (b2x0 : Bool) (b2x1 : Bool) (b2x2 : Bool) (b2x3 : Bool) (i3 : Int) (b8 : Bool) (h : Heap) : Res := M (AV × Heap) (seqQ (evalE M C k42x11) (seqQ (evalE M C k42x8) (blockQ 0 (seqQ (evalE M C k42x3) (seqQ (evalE M C k42x1) (endQ [.cell 2 (.agg [.bool, .bool, .bool, .bool])])))))) (.any :: .any :: (.box [(.bool b2x0), (.bool b2x1), (.bool b2x2), (.bool b2x3)] :: (.g [] true (.int .i64 i3) :: (rep 4 (.g [] true (.bool b8) :: (rep 33 [])))))) h
noncomputable def J42x31 (M : Mk) (C : Cal) (b2x0 : Bool) (b2x1 : Bool) (b2x2 : Bool) (b2x3 : Bool) (i3 : Int) (b8 : Bool) (h : Heap) : Res := M (AV × Heap) (seqQ (evalE M C k42x13) (seqQ (evalE M C k42x11) (seqQ (evalE M C k42x8) (blockQ 0 (seqQ (evalE M C k42x3) (seqQ (evalE M C k42x1) (endQ [.cell 2 (.agg [.bool, .bool, .bool, .bool])]))))))) (.any :: .any :: (.box [(.bool b2x0), (.bool b2x1), (.bool b2x2), (.bool b2x3)] :: (.g [] true (.int .i64 i3) :: (rep 4 (.g [] true (.bool b8) :: (rep 33 [])))))) h
noncomputable def J42x30 (M : Mk) (C : Cal) (b2x0 : Bool) (b2x1 : Bool) (b2x2 : Bool) (b2x3 : Bool) (i3 : Int) (b8 : Bool) (h : Heap) : Res := M (AV × Heap) (seqQ (evalE M C k42x15) (seqQ (evalE M C k42x13) (seqQ (evalE M C k42x11) (seqQ (evalE M C k42x8) (blockQ 0 (seqQ (evalE M C k42x3) (seqQ (evalE M C k42x1) (endQ [.cell 2 (.agg [.bool, .bool, .bool, .bool])])))))))) (.any :: .any :: (.box [(.bool b2x0), (.bool b2x1), (.bool b2x2), (.bool b2x3)] :: (.g [] true (.int .i64 i3) :: (rep 4 (.g [] true (.bool b8) :: (rep 33 [])))))) h
noncomputable def J42x29 (M : Mk) (C : Cal) (b2x0 : Bool) (b2x1 : Bool) (b2x2 : Bool) (b2x3 : Bool) (i3 : Int) (b8 : Bool) (h : Heap) : Res := M (AV × Heap) (seqQ (evalE M C k42x17) (seqQ (evalE M C k42x15) (seqQ (evalE M C k42x13) (seqQ (evalE M C k42x11) (seqQ (evalE M C k42x8) (blockQ 0 (seqQ (evalE M C k42x3) (seqQ (evalE M C k42x1) (endQ [.cell 2 (.agg [.bool, .bool, .bool, .bool])]))))))))) (.any :: .any :: (.box [(.bool b2x0), (.bool b2x1), (.bool b2x2), (.bool b2x3)] :: (.g [] true (.int .i64 i3) :: (rep 4 (.g [] true (.bool b8) :: (rep 33 [])))))) h
noncomputable def J42x28 (M : Mk) (C : Cal) (b2x0 : Bool) (b2x1 : Bool) (b2x2 : Bool) (b2x3 : Bool) (i3 : Int) (b8 : Bool) (h : Heap) : Res := M (AV × Heap) (seqQ (evalE M C k42x19) (seqQ (evalE M C k42x17) (seqQ (evalE M C k42x15) (seqQ (evalE M C k42x13) (seqQ (evalE M C k42x11) (seqQ (evalE M C k42x8) (blockQ 0 (seqQ (evalE M C k42x3) (seqQ (evalE M C k42x1) (endQ [.cell 2 (.agg [.bool, .bool, .bool, .bool])])))))))))) (.any :: .any :: (.box [(.bool b2x0), (.bool b2x1), (.bool b2x2), (.bool b2x3)] :: (.g [] true (.int .i64 i3) :: (rep 4 (.g [] true (.bool b8) :: (rep 33 [])))))) h
noncomputable def J42x27 (M : Mk) (C : Cal) (b2x0 : Bool) (b2x1 : Bool) (b2x2 : Bool) (b2x3 : Bool) (i3 : Int) (b8 : Bool) (h : Heap) : Res := M (AV × Heap) (seqQ (evalE M C k42x21) (seqQ (evalE M C k42x19) (seqQ (evalE M C k42x17) (seqQ (evalE M C k42x15) (seqQ (evalE M C k42x13) (seqQ (evalE M C k42x11) (seqQ (evalE M C k42x8) (blockQ 0 (seqQ (evalE M C k42x3) (seqQ (evalE M C k42x1) (endQ [.cell 2 (.agg [.bool, .bool, .bool, .bool])]))))))))))) (.any :: .any :: (.box [(.bool b2x0), (.bool b2x1), (.bool b2x2), (.bool b2x3)] :: (.g [] true (.int .i64 i3) :: (rep 4 (.g [] true (.bool b8) :: (rep 33 [])))))) h
noncomputable def J42x26 (M : Mk) (C : Cal) (b2x0 : Bool) (b2x1 : Bool) (b2x2 : Bool) (b2x3 : Bool) (i3 : Int) (b8 : Bool) (h : Heap) : Res := M (AV × Heap) (seqQ (evalE M C k42x23) (seqQ (evalE M C k42x21) (seqQ (evalE M C k42x19) (seqQ (evalE M C k42x17) (seqQ (evalE M C k42x15) (seqQ (evalE M C k42x13) (seqQ (evalE M C k42x11) (seqQ (evalE M C k42x8) (blockQ 0 (seqQ (evalE M C k42x3) (seqQ (evalE M C k42x1) (endQ [.cell 2 (.agg [.bool, .bool, .bool, .bool])])))))))))))) (.any :: .any :: (.box [(.bool b2x0), (.bool b2x1), (.bool b2x2), (.bool b2x3)] :: (.g [] true (.int .i64 i3) :: (rep 4 (.g [] true (.bool b8) :: (rep 33 [])))))) h
noncomputable def J42x45 (M : Mk) (C : Cal) (b2x0 : Bool) (b2x1 : Bool) (b2x2 : Bool) (b2x3 : Bool) (i3 : Int) (b18 : Bool) (h : Heap) : Res := M (AV × Heap) (seqQ (evalE M C k42x36) (seqQ (evalE M C k42x33) (seqQ (evalE M C k42x8) (blockQ 0 (seqQ (evalE M C k42x3) (seqQ (evalE M C k42x1) (endQ [.cell 2 (.agg [.bool, .bool, .bool, .bool])]))))))) (.any :: .any :: (.box [(.bool b2x0), (.bool b2x1), (.bool b2x2), (.bool b2x3)] :: (.g [] true (.int .i64 i3) :: (rep 14 (.g [] true (.bool b18) :: (rep 23 [])))))) h
noncomputable def J42x44 (M : Mk) (C : Cal) (b2x0 : Bool) (b2x1 : Bool) (b2x2 : Bool) (b2x3 : Bool) (i3 : Int) (b18 : Bool) (h : Heap) : Res := M (AV × Heap) (seqQ (evalE M C k42x38) (seqQ (evalE M C k42x36) (seqQ (evalE M C k42x33) (seqQ (evalE M C k42x8) (blockQ 0 (seqQ (evalE M C k42x3) (seqQ (evalE M C k42x1) (endQ [.cell 2 (.agg [.bool, .bool, .bool, .bool])])))))))) (.any :: .any :: (.box [(.bool b2x0), (.bool b2x1), (.bool b2x2), (.bool b2x3)] :: (.g [] true (.int .i64 i3) :: (rep 14 (.g [] true (.bool b18) :: (rep 23 [])))))) h
noncomputable def J42x43 (M : Mk) (C : Cal) (b2x0 : Bool) (b2x1 : Bool) (b2x2 : Bool) (b2x3 : Bool) (i3 : Int) (b18 : Bool) (h : Heap) : Res := M (AV × Heap) (seqQ (evalE M C k42x40) (seqQ (evalE M C k42x38) (seqQ (evalE M C k42x36) (seqQ (evalE M C k42x33) (seqQ (evalE M C k42x8) (blockQ 0 (seqQ (evalE M C k42x3) (seqQ (evalE M C k42x1) (endQ [.cell 2 (.agg [.bool, .bool, .bool, .bool])]))))))))) (.any :: .any :: (.box [(.bool b2x0), (.bool b2x1), (.bool b2x2), (.bool b2x3)] :: (.g [] true (.int .i64 i3) :: (rep 14 (.g [] true (.bool b18) :: (rep 23 [])))))) h
noncomputable def J42x62 (M : Mk) (C : Cal) (b2x0 : Bool) (b2x1 : Bool) (b2x2 : Bool) (b2x3 : Bool) (i3 : Int) (b27 : Bool) (h : Heap) : Res := M (AV × Heap) (seqQ (evalE M C k42x53) (seqQ (evalE M C k42x50) (seqQ (evalE M C k42x46) (seqQ (evalE M C k42x33) (seqQ (evalE M C k42x8) (blockQ 0 (seqQ (evalE M C k42x3) (seqQ (evalE M C k42x1) (endQ [.cell 2 (.agg [.bool, .bool, .bool, .bool])]))))))))) (.any :: .any :: (.box [(.bool b2x0), (.bool b2x1), (.bool b2x2), (.bool b2x3)] :: (.g [] true (.int .i64 i3) :: (rep 23 (.g [] true (.bool b27) :: (rep 14 [])))))) h
noncomputable def J42x61 (M : Mk) (C : Cal) (b2x0 : Bool) (b2x1 : Bool) (b2x2 : Bool) (b2x3 : Bool) (i3 : Int) (b27 : Bool) (h : Heap) : Res := M (AV × Heap) (seqQ (evalE M C k42x55) (seqQ (evalE M C k42x53) (seqQ (evalE M C k42x50) (seqQ (evalE M C k42x46) (seqQ (evalE M C k42x33) (seqQ (evalE M C k42x8) (blockQ 0 (seqQ (evalE M C k42x3) (seqQ (evalE M C k42x1) (endQ [.cell 2 (.agg [.bool, .bool, .bool, .bool])])))))))))) (.any :: .any :: (.box [(.bool b2x0), (.bool b2x1), (.bool b2x2), (.bool b2x3)] :: (.g [] true (.int .i64 i3) :: (rep 23 (.g [] true (.bool b27) :: (rep 14 [])))))) h
noncomputable def J42x60 (M : Mk) (C : Cal) (b2x0 : Bool) (b2x1 : Bool) (b2x2 : Bool) (b2x3 : Bool) (i3 : Int) (b27 : Bool) (h : Heap) : Res := M (AV × Heap) (seqQ (evalE M C k42x57) (seqQ (evalE M C k42x55) (seqQ (evalE M C k42x53) (seqQ (evalE M C k42x50) (seqQ (evalE M C k42x46) (seqQ (evalE M C k42x33) (seqQ (evalE M C k42x8) (blockQ 0 (seqQ (evalE M C k42x3) (seqQ (evalE M C k42x1) (endQ [.cell 2 (.agg [.bool, .bool, .bool, .bool])]))))))))))) (.any :: .any :: (.box [(.bool b2x0), (.bool b2x1), (.bool b2x2), (.bool b2x3)] :: (.g [] true (.int .i64 i3) :: (rep 23 (.g [] true (.bool b27) :: (rep 14 [])))))) h
noncomputable def J42x76 (M : Mk) (C : Cal) (b2x0 : Bool) (b2x1 : Bool) (b2x2 : Bool) (b2x3 : Bool) (b36 : Bool) (h : Heap) : Res := M (AV × Heap) (seqQ (evalE M C k42x70) (seqQ (evalE M C k42x67) (seqQ (evalE M C k42x63) (seqQ (evalE M C k42x50) (seqQ (evalE M C k42x46) (seqQ (evalE M C k42x33) (seqQ (evalE M C k42x8) (blockQ 0 (seqQ (evalE M C k42x3) (seqQ (evalE M C k42x1) (endQ [.cell 2 (.agg [.bool, .bool, .bool, .bool])]))))))))))) (.any :: .any :: (.box [(.bool b2x0), (.bool b2x1), (.bool b2x2), (.bool b2x3)] :: (rep 33 (.g [] true (.bool b36) :: (rep 5 []))))) h
noncomputable def J42x75 (M : Mk) (C : Cal) (b2x0 : Bool) (b2x1 : Bool) (b2x2 : Bool) (b2x3 : Bool) (b36 : Bool) (h : Heap) : Res := M (AV × Heap) (seqQ (evalE M C k42x72) (seqQ (evalE M C k42x70) (seqQ (evalE M C k42x67) (seqQ (evalE M C k42x63) (seqQ (evalE M C k42x50) (seqQ (evalE M C k42x46) (seqQ (evalE M C k42x33) (seqQ (evalE M C k42x8) (blockQ 0 (seqQ (evalE M C k42x3) (seqQ (evalE M C k42x1) (endQ [.cell 2 (.agg [.bool, .bool, .bool, .bool])])))))))))))) (.any :: .any :: (.box [(.bool b2x0), (.bool b2x1), (.bool b2x2), (.bool b2x3)] :: (rep 33 (.g [] true (.bool b36) :: (rep 5 []))))) h
theorem r42 (i0 : Int) (h : Heap) : runE M C c42 [(.int .i64 i0)] h = (
  letK ((decide ((i0 : Int) = 0)) : Bool) fun b5 =>
  if b5 = true then
    (
    J42x7 M C false false false false i0 b5 h
    )
  else
    (
    letK ((decide ((i0 : Int) = 22)) : Bool) fun b6 =>
    J42x7 M C false false false false i0 b6 h
    )
  ) := by kernel_rfl
theorem cf42 : cFn Try.prog 42 = some c42 := by kernel_rfl
theorem e42 (i0 : Int) (h : Heap) : E 42 [(.int .i64 i0)] h = (
  letK ((decide ((i0 : Int) = 0)) : Bool) fun b5 =>
  if b5 = true then
    (
    J42x7 mk0 E false false false false i0 b5 h
    )
  else
    (
    letK ((decide ((i0 : Int) = 22)) : Bool) fun b6 =>
    J42x7 mk0 E false false false false i0 b6 h
    )
  ) := (EV_eq (P := Try.prog) (T := T0) rfl cf42 [(.int .i64 i0)] h).trans (r42 mk0 E i0 h)
theorem J42x7xaux (M : Mk) (C : Cal) (b2x0 : Bool) (b2x1 : Bool) (b2x2 : Bool) (b2x3 : Bool) (i3 : Int) (b4 : Bool) (h : Heap) : (forceK tk (.any :: .any :: (.box [(.bool b2x0), (.bool b2x1), (.bool b2x2), (.bool b2x3)] :: (.g [] true (.int .i64 i3) :: (.g [] true (.bool b4) :: (rep 37 []))))) fun e => (seqQ (evalE M C k42x4) (blockQ 0 (seqQ (evalE M C k42x3) (seqQ (evalE M C k42x1) (endQ [.cell 2 (.agg [.bool, .bool, .bool, .bool])]))))) .normal ⟨e, h⟩) = (
  if b4 = true then
    (
    some ((.agg [(.bool false), (.bool false), (.bool false), (.bool false)]), h)
    )
  else
    (
    letK ((decide ((i3 : Int) = 1)) : Bool) fun b9 =>
    if b9 = true then
      (
      J42x32 M C b2x0 b2x1 b2x2 b2x3 i3 b9 h
      )
    else
      (
      letK ((decide ((i3 : Int) = 2)) : Bool) fun b10 =>
      if b10 = true then
        (
        J42x31 M C b2x0 b2x1 b2x2 b2x3 i3 b10 h
        )
      else
        (
        letK ((decide ((i3 : Int) = 3)) : Bool) fun b11 =>
        if b11 = true then
          (
          J42x30 M C b2x0 b2x1 b2x2 b2x3 i3 b11 h
          )
        else
          (
          letK ((decide ((i3 : Int) = 4)) : Bool) fun b12 =>
          if b12 = true then
            (
            J42x29 M C b2x0 b2x1 b2x2 b2x3 i3 b12 h
            )
          else
            (
            letK ((decide ((i3 : Int) = 5)) : Bool) fun b13 =>
            if b13 = true then
              (
              J42x28 M C b2x0 b2x1 b2x2 b2x3 i3 b13 h
              )
            else
              (
              letK ((decide ((i3 : Int) = 6)) : Bool) fun b14 =>
              if b14 = true then
                (
                J42x27 M C b2x0 b2x1 b2x2 b2x3 i3 b14 h
                )
              else
                (
                letK ((decide ((i3 : Int) = 7)) : Bool) fun b15 =>
                if b15 = true then
                  (
                  J42x26 M C b2x0 b2x1 b2x2 b2x3 i3 b15 h
                  )
                else
                  (
                  letK ((decide ((i3 : Int) = 15)) : Bool) fun b16 =>
                  J42x26 M C b2x0 b2x1 b2x2 b2x3 i3 b16 h
                  )
                )
              )
            )
          )
        )
      )
    )
  ) := by kernel_rfl
theorem J42x7xeq (C : Cal) (b2x0 : Bool) (b2x1 : Bool) (b2x2 : Bool) (b2x3 : Bool) (i3 : Int) (b4 : Bool) (h : Heap) : J42x7 mk0 C b2x0 b2x1 b2x2 b2x3 i3 b4 h = (
  if b4 = true then
    (
    some ((.agg [(.bool false), (.bool false), (.bool false), (.bool false)]), h)
    )
  else
    (
    letK ((decide ((i3 : Int) = 1)) : Bool) fun b9 =>
    if b9 = true then
      (
      J42x32 mk0 C b2x0 b2x1 b2x2 b2x3 i3 b9 h
      )
    else
      (
      letK ((decide ((i3 : Int) = 2)) : Bool) fun b10 =>
      if b10 = true then
        (
        J42x31 mk0 C b2x0 b2x1 b2x2 b2x3 i3 b10 h
        )
      else
        (
        letK ((decide ((i3 : Int) = 3)) : Bool) fun b11 =>
        if b11 = true then
          (
          J42x30 mk0 C b2x0 b2x1 b2x2 b2x3 i3 b11 h
          )
        else
          (
          letK ((decide ((i3 : Int) = 4)) : Bool) fun b12 =>
          if b12 = true then
            (
            J42x29 mk0 C b2x0 b2x1 b2x2 b2x3 i3 b12 h
            )
          else
            (
            letK ((decide ((i3 : Int) = 5)) : Bool) fun b13 =>
            if b13 = true then
              (
              J42x28 mk0 C b2x0 b2x1 b2x2 b2x3 i3 b13 h
              )
            else
              (
              letK ((decide ((i3 : Int) = 6)) : Bool) fun b14 =>
              if b14 = true then
                (
                J42x27 mk0 C b2x0 b2x1 b2x2 b2x3 i3 b14 h
                )
              else
                (
                letK ((decide ((i3 : Int) = 7)) : Bool) fun b15 =>
                if b15 = true then
                  (
                  J42x26 mk0 C b2x0 b2x1 b2x2 b2x3 i3 b15 h
                  )
                else
                  (
                  letK ((decide ((i3 : Int) = 15)) : Bool) fun b16 =>
                  J42x26 mk0 C b2x0 b2x1 b2x2 b2x3 i3 b16 h
                  )
                )
              )
            )
          )
        )
      )
    )
  ) := join_eqn (seqQ (evalE mk0 C k42x4) (blockQ 0 (seqQ (evalE mk0 C k42x3) (seqQ (evalE mk0 C k42x1) (endQ [.cell 2 (.agg [.bool, .bool, .bool, .bool])]))))) (.any :: .any :: (.box [(.bool b2x0), (.bool b2x1), (.bool b2x2), (.bool b2x3)] :: (.g [] true (.int .i64 i3) :: (.g [] true (.bool b4) :: (rep 37 []))))) h (J42x7xaux mk0 C b2x0 b2x1 b2x2 b2x3 i3 b4 h)
theorem J42x32xaux (M : Mk) (C : Cal) (b2x0 : Bool) (b2x1 : Bool) (b2x2 : Bool) (b2x3 : Bool) (i3 : Int) (b8 : Bool) (h : Heap) : (forceK tk (.any :: .any :: (.box [(.bool b2x0), (.bool b2x1), (.bool b2x2), (.bool b2x3)] :: (.g [] true (.int .i64 i3) :: (rep 4 (.g [] true (.bool b8) :: (rep 33 [])))))) fun e => (seqQ (evalE M C k42x11) (seqQ (evalE M C k42x8) (blockQ 0 (seqQ (evalE M C k42x3) (seqQ (evalE M C k42x1) (endQ [.cell 2 (.agg [.bool, .bool, .bool, .bool])])))))) .normal ⟨e, h⟩) = (
  if b8 = true then
    (
    some ((.agg [(.bool true), (.bool true), (.bool true), (.bool false)]), h)
    )
  else
    (
    letK ((decide ((i3 : Int) = 8)) : Bool) fun b19 =>
    if b19 = true then
      (
      J42x45 M C b2x0 b2x1 b2x2 b2x3 i3 b19 h
      )
    else
      (
      letK ((decide ((i3 : Int) = 9)) : Bool) fun b20 =>
      if b20 = true then
        (
        J42x44 M C b2x0 b2x1 b2x2 b2x3 i3 b20 h
        )
      else
        (
        letK ((decide ((i3 : Int) = 10)) : Bool) fun b21 =>
        if b21 = true then
          (
          J42x43 M C b2x0 b2x1 b2x2 b2x3 i3 b21 h
          )
        else
          (
          letK ((decide ((i3 : Int) = 12)) : Bool) fun b22 =>
          J42x43 M C b2x0 b2x1 b2x2 b2x3 i3 b22 h
          )
        )
      )
    )
  ) := by kernel_rfl
theorem J42x32xeq (C : Cal) (b2x0 : Bool) (b2x1 : Bool) (b2x2 : Bool) (b2x3 : Bool) (i3 : Int) (b8 : Bool) (h : Heap) : J42x32 mk0 C b2x0 b2x1 b2x2 b2x3 i3 b8 h = (
  if b8 = true then
    (
    some ((.agg [(.bool true), (.bool true), (.bool true), (.bool false)]), h)
    )
  else
    (
    letK ((decide ((i3 : Int) = 8)) : Bool) fun b19 =>
    if b19 = true then
      (
      J42x45 mk0 C b2x0 b2x1 b2x2 b2x3 i3 b19 h
      )
    else
      (
      letK ((decide ((i3 : Int) = 9)) : Bool) fun b20 =>
      if b20 = true then
        (
        J42x44 mk0 C b2x0 b2x1 b2x2 b2x3 i3 b20 h
        )
      else
        (
        letK ((decide ((i3 : Int) = 10)) : Bool) fun b21 =>
        if b21 = true then
          (
          J42x43 mk0 C b2x0 b2x1 b2x2 b2x3 i3 b21 h
          )
        else
          (
          letK ((decide ((i3 : Int) = 12)) : Bool) fun b22 =>
          J42x43 mk0 C b2x0 b2x1 b2x2 b2x3 i3 b22 h
          )
        )
      )
    )
  ) := join_eqn (seqQ (evalE mk0 C k42x11) (seqQ (evalE mk0 C k42x8) (blockQ 0 (seqQ (evalE mk0 C k42x3) (seqQ (evalE mk0 C k42x1) (endQ [.cell 2 (.agg [.bool, .bool, .bool, .bool])])))))) (.any :: .any :: (.box [(.bool b2x0), (.bool b2x1), (.bool b2x2), (.bool b2x3)] :: (.g [] true (.int .i64 i3) :: (rep 4 (.g [] true (.bool b8) :: (rep 33 [])))))) h (J42x32xaux mk0 C b2x0 b2x1 b2x2 b2x3 i3 b8 h)
theorem J42x31xaux (M : Mk) (C : Cal) (b2x0 : Bool) (b2x1 : Bool) (b2x2 : Bool) (b2x3 : Bool) (i3 : Int) (b8 : Bool) (h : Heap) : (forceK tk (.any :: .any :: (.box [(.bool b2x0), (.bool b2x1), (.bool b2x2), (.bool b2x3)] :: (.g [] true (.int .i64 i3) :: (rep 4 (.g [] true (.bool b8) :: (rep 33 [])))))) fun e => (seqQ (evalE M C k42x13) (seqQ (evalE M C k42x11) (seqQ (evalE M C k42x8) (blockQ 0 (seqQ (evalE M C k42x3) (seqQ (evalE M C k42x1) (endQ [.cell 2 (.agg [.bool, .bool, .bool, .bool])]))))))) .normal ⟨e, h⟩) = (
  J42x32 M C b2x0 b2x1 b2x2 b2x3 i3 b8 h
  ) := by kernel_rfl
theorem J42x31xeq (C : Cal) (b2x0 : Bool) (b2x1 : Bool) (b2x2 : Bool) (b2x3 : Bool) (i3 : Int) (b8 : Bool) (h : Heap) : J42x31 mk0 C b2x0 b2x1 b2x2 b2x3 i3 b8 h = (
  J42x32 mk0 C b2x0 b2x1 b2x2 b2x3 i3 b8 h
  ) := join_eqn (seqQ (evalE mk0 C k42x13) (seqQ (evalE mk0 C k42x11) (seqQ (evalE mk0 C k42x8) (blockQ 0 (seqQ (evalE mk0 C k42x3) (seqQ (evalE mk0 C k42x1) (endQ [.cell 2 (.agg [.bool, .bool, .bool, .bool])]))))))) (.any :: .any :: (.box [(.bool b2x0), (.bool b2x1), (.bool b2x2), (.bool b2x3)] :: (.g [] true (.int .i64 i3) :: (rep 4 (.g [] true (.bool b8) :: (rep 33 [])))))) h (J42x31xaux mk0 C b2x0 b2x1 b2x2 b2x3 i3 b8 h)
theorem J42x30xaux (M : Mk) (C : Cal) (b2x0 : Bool) (b2x1 : Bool) (b2x2 : Bool) (b2x3 : Bool) (i3 : Int) (b8 : Bool) (h : Heap) : (forceK tk (.any :: .any :: (.box [(.bool b2x0), (.bool b2x1), (.bool b2x2), (.bool b2x3)] :: (.g [] true (.int .i64 i3) :: (rep 4 (.g [] true (.bool b8) :: (rep 33 [])))))) fun e => (seqQ (evalE M C k42x15) (seqQ (evalE M C k42x13) (seqQ (evalE M C k42x11) (seqQ (evalE M C k42x8) (blockQ 0 (seqQ (evalE M C k42x3) (seqQ (evalE M C k42x1) (endQ [.cell 2 (.agg [.bool, .bool, .bool, .bool])])))))))) .normal ⟨e, h⟩) = (
  J42x31 M C b2x0 b2x1 b2x2 b2x3 i3 b8 h
  ) := by kernel_rfl
theorem J42x30xeq (C : Cal) (b2x0 : Bool) (b2x1 : Bool) (b2x2 : Bool) (b2x3 : Bool) (i3 : Int) (b8 : Bool) (h : Heap) : J42x30 mk0 C b2x0 b2x1 b2x2 b2x3 i3 b8 h = (
  J42x31 mk0 C b2x0 b2x1 b2x2 b2x3 i3 b8 h
  ) := join_eqn (seqQ (evalE mk0 C k42x15) (seqQ (evalE mk0 C k42x13) (seqQ (evalE mk0 C k42x11) (seqQ (evalE mk0 C k42x8) (blockQ 0 (seqQ (evalE mk0 C k42x3) (seqQ (evalE mk0 C k42x1) (endQ [.cell 2 (.agg [.bool, .bool, .bool, .bool])])))))))) (.any :: .any :: (.box [(.bool b2x0), (.bool b2x1), (.bool b2x2), (.bool b2x3)] :: (.g [] true (.int .i64 i3) :: (rep 4 (.g [] true (.bool b8) :: (rep 33 [])))))) h (J42x30xaux mk0 C b2x0 b2x1 b2x2 b2x3 i3 b8 h)
theorem J42x29xaux (M : Mk) (C : Cal) (b2x0 : Bool) (b2x1 : Bool) (b2x2 : Bool) (b2x3 : Bool) (i3 : Int) (b8 : Bool) (h : Heap) : (forceK tk (.any :: .any :: (.box [(.bool b2x0), (.bool b2x1), (.bool b2x2), (.bool b2x3)] :: (.g [] true (.int .i64 i3) :: (rep 4 (.g [] true (.bool b8) :: (rep 33 [])))))) fun e => (seqQ (evalE M C k42x17) (seqQ (evalE M C k42x15) (seqQ (evalE M C k42x13) (seqQ (evalE M C k42x11) (seqQ (evalE M C k42x8) (blockQ 0 (seqQ (evalE M C k42x3) (seqQ (evalE M C k42x1) (endQ [.cell 2 (.agg [.bool, .bool, .bool, .bool])]))))))))) .normal ⟨e, h⟩) = (
  J42x30 M C b2x0 b2x1 b2x2 b2x3 i3 b8 h
  ) := by kernel_rfl
theorem J42x29xeq (C : Cal) (b2x0 : Bool) (b2x1 : Bool) (b2x2 : Bool) (b2x3 : Bool) (i3 : Int) (b8 : Bool) (h : Heap) : J42x29 mk0 C b2x0 b2x1 b2x2 b2x3 i3 b8 h = (
  J42x30 mk0 C b2x0 b2x1 b2x2 b2x3 i3 b8 h
  ) := join_eqn (seqQ (evalE mk0 C k42x17) (seqQ (evalE mk0 C k42x15) (seqQ (evalE mk0 C k42x13) (seqQ (evalE mk0 C k42x11) (seqQ (evalE mk0 C k42x8) (blockQ 0 (seqQ (evalE mk0 C k42x3) (seqQ (evalE mk0 C k42x1) (endQ [.cell 2 (.agg [.bool, .bool, .bool, .bool])]))))))))) (.any :: .any :: (.box [(.bool b2x0), (.bool b2x1), (.bool b2x2), (.bool b2x3)] :: (.g [] true (.int .i64 i3) :: (rep 4 (.g [] true (.bool b8) :: (rep 33 [])))))) h (J42x29xaux mk0 C b2x0 b2x1 b2x2 b2x3 i3 b8 h)
theorem J42x28xaux (M : Mk) (C : Cal) (b2x0 : Bool) (b2x1 : Bool) (b2x2 : Bool) (b2x3 : Bool) (i3 : Int) (b8 : Bool) (h : Heap) : (forceK tk (.any :: .any :: (.box [(.bool b2x0), (.bool b2x1), (.bool b2x2), (.bool b2x3)] :: (.g [] true (.int .i64 i3) :: (rep 4 (.g [] true (.bool b8) :: (rep 33 [])))))) fun e => (seqQ (evalE M C k42x19) (seqQ (evalE M C k42x17) (seqQ (evalE M C k42x15) (seqQ (evalE M C k42x13) (seqQ (evalE M C k42x11) (seqQ (evalE M C k42x8) (blockQ 0 (seqQ (evalE M C k42x3) (seqQ (evalE M C k42x1) (endQ [.cell 2 (.agg [.bool, .bool, .bool, .bool])])))))))))) .normal ⟨e, h⟩) = (
  J42x29 M C b2x0 b2x1 b2x2 b2x3 i3 b8 h
  ) := by kernel_rfl
theorem J42x28xeq (C : Cal) (b2x0 : Bool) (b2x1 : Bool) (b2x2 : Bool) (b2x3 : Bool) (i3 : Int) (b8 : Bool) (h : Heap) : J42x28 mk0 C b2x0 b2x1 b2x2 b2x3 i3 b8 h = (
  J42x29 mk0 C b2x0 b2x1 b2x2 b2x3 i3 b8 h
  ) := join_eqn (seqQ (evalE mk0 C k42x19) (seqQ (evalE mk0 C k42x17) (seqQ (evalE mk0 C k42x15) (seqQ (evalE mk0 C k42x13) (seqQ (evalE mk0 C k42x11) (seqQ (evalE mk0 C k42x8) (blockQ 0 (seqQ (evalE mk0 C k42x3) (seqQ (evalE mk0 C k42x1) (endQ [.cell 2 (.agg [.bool, .bool, .bool, .bool])])))))))))) (.any :: .any :: (.box [(.bool b2x0), (.bool b2x1), (.bool b2x2), (.bool b2x3)] :: (.g [] true (.int .i64 i3) :: (rep 4 (.g [] true (.bool b8) :: (rep 33 [])))))) h (J42x28xaux mk0 C b2x0 b2x1 b2x2 b2x3 i3 b8 h)
theorem J42x27xaux (M : Mk) (C : Cal) (b2x0 : Bool) (b2x1 : Bool) (b2x2 : Bool) (b2x3 : Bool) (i3 : Int) (b8 : Bool) (h : Heap) : (forceK tk (.any :: .any :: (.box [(.bool b2x0), (.bool b2x1), (.bool b2x2), (.bool b2x3)] :: (.g [] true (.int .i64 i3) :: (rep 4 (.g [] true (.bool b8) :: (rep 33 [])))))) fun e => (seqQ (evalE M C k42x21) (seqQ (evalE M C k42x19) (seqQ (evalE M C k42x17) (seqQ (evalE M C k42x15) (seqQ (evalE M C k42x13) (seqQ (evalE M C k42x11) (seqQ (evalE M C k42x8) (blockQ 0 (seqQ (evalE M C k42x3) (seqQ (evalE M C k42x1) (endQ [.cell 2 (.agg [.bool, .bool, .bool, .bool])]))))))))))) .normal ⟨e, h⟩) = (
  J42x28 M C b2x0 b2x1 b2x2 b2x3 i3 b8 h
  ) := by kernel_rfl
theorem J42x27xeq (C : Cal) (b2x0 : Bool) (b2x1 : Bool) (b2x2 : Bool) (b2x3 : Bool) (i3 : Int) (b8 : Bool) (h : Heap) : J42x27 mk0 C b2x0 b2x1 b2x2 b2x3 i3 b8 h = (
  J42x28 mk0 C b2x0 b2x1 b2x2 b2x3 i3 b8 h
  ) := join_eqn (seqQ (evalE mk0 C k42x21) (seqQ (evalE mk0 C k42x19) (seqQ (evalE mk0 C k42x17) (seqQ (evalE mk0 C k42x15) (seqQ (evalE mk0 C k42x13) (seqQ (evalE mk0 C k42x11) (seqQ (evalE mk0 C k42x8) (blockQ 0 (seqQ (evalE mk0 C k42x3) (seqQ (evalE mk0 C k42x1) (endQ [.cell 2 (.agg [.bool, .bool, .bool, .bool])]))))))))))) (.any :: .any :: (.box [(.bool b2x0), (.bool b2x1), (.bool b2x2), (.bool b2x3)] :: (.g [] true (.int .i64 i3) :: (rep 4 (.g [] true (.bool b8) :: (rep 33 [])))))) h (J42x27xaux mk0 C b2x0 b2x1 b2x2 b2x3 i3 b8 h)
theorem J42x26xaux (M : Mk) (C : Cal) (b2x0 : Bool) (b2x1 : Bool) (b2x2 : Bool) (b2x3 : Bool) (i3 : Int) (b8 : Bool) (h : Heap) : (forceK tk (.any :: .any :: (.box [(.bool b2x0), (.bool b2x1), (.bool b2x2), (.bool b2x3)] :: (.g [] true (.int .i64 i3) :: (rep 4 (.g [] true (.bool b8) :: (rep 33 [])))))) fun e => (seqQ (evalE M C k42x23) (seqQ (evalE M C k42x21) (seqQ (evalE M C k42x19) (seqQ (evalE M C k42x17) (seqQ (evalE M C k42x15) (seqQ (evalE M C k42x13) (seqQ (evalE M C k42x11) (seqQ (evalE M C k42x8) (blockQ 0 (seqQ (evalE M C k42x3) (seqQ (evalE M C k42x1) (endQ [.cell 2 (.agg [.bool, .bool, .bool, .bool])])))))))))))) .normal ⟨e, h⟩) = (
  J42x27 M C b2x0 b2x1 b2x2 b2x3 i3 b8 h
  ) := by kernel_rfl
theorem J42x26xeq (C : Cal) (b2x0 : Bool) (b2x1 : Bool) (b2x2 : Bool) (b2x3 : Bool) (i3 : Int) (b8 : Bool) (h : Heap) : J42x26 mk0 C b2x0 b2x1 b2x2 b2x3 i3 b8 h = (
  J42x27 mk0 C b2x0 b2x1 b2x2 b2x3 i3 b8 h
  ) := join_eqn (seqQ (evalE mk0 C k42x23) (seqQ (evalE mk0 C k42x21) (seqQ (evalE mk0 C k42x19) (seqQ (evalE mk0 C k42x17) (seqQ (evalE mk0 C k42x15) (seqQ (evalE mk0 C k42x13) (seqQ (evalE mk0 C k42x11) (seqQ (evalE mk0 C k42x8) (blockQ 0 (seqQ (evalE mk0 C k42x3) (seqQ (evalE mk0 C k42x1) (endQ [.cell 2 (.agg [.bool, .bool, .bool, .bool])])))))))))))) (.any :: .any :: (.box [(.bool b2x0), (.bool b2x1), (.bool b2x2), (.bool b2x3)] :: (.g [] true (.int .i64 i3) :: (rep 4 (.g [] true (.bool b8) :: (rep 33 [])))))) h (J42x26xaux mk0 C b2x0 b2x1 b2x2 b2x3 i3 b8 h)
theorem J42x45xaux (M : Mk) (C : Cal) (b2x0 : Bool) (b2x1 : Bool) (b2x2 : Bool) (b2x3 : Bool) (i3 : Int) (b18 : Bool) (h : Heap) : (forceK tk (.any :: .any :: (.box [(.bool b2x0), (.bool b2x1), (.bool b2x2), (.bool b2x3)] :: (.g [] true (.int .i64 i3) :: (rep 14 (.g [] true (.bool b18) :: (rep 23 [])))))) fun e => (seqQ (evalE M C k42x36) (seqQ (evalE M C k42x33) (seqQ (evalE M C k42x8) (blockQ 0 (seqQ (evalE M C k42x3) (seqQ (evalE M C k42x1) (endQ [.cell 2 (.agg [.bool, .bool, .bool, .bool])]))))))) .normal ⟨e, h⟩) = (
  if b18 = true then
    (
    some ((.agg [(.bool true), (.bool true), (.bool false), (.bool true)]), h)
    )
  else
    (
    letK ((decide ((i3 : Int) = 11)) : Bool) fun b25 =>
    if b25 = true then
      (
      some ((.agg [(.bool true), (.bool false), (.bool false), (.bool true)]), h)
      )
    else
      (
      letK ((decide ((i3 : Int) = 13)) : Bool) fun b28 =>
      if b28 = true then
        (
        J42x62 M C b2x0 b2x1 b2x2 b2x3 i3 b28 h
        )
      else
        (
        letK ((decide ((i3 : Int) = 16)) : Bool) fun b29 =>
        if b29 = true then
          (
          J42x61 M C b2x0 b2x1 b2x2 b2x3 i3 b29 h
          )
        else
          (
          letK ((decide ((i3 : Int) = 17)) : Bool) fun b30 =>
          if b30 = true then
            (
            J42x60 M C b2x0 b2x1 b2x2 b2x3 i3 b30 h
            )
          else
            (
            letK ((decide ((i3 : Int) = 18)) : Bool) fun b31 =>
            J42x60 M C b2x0 b2x1 b2x2 b2x3 i3 b31 h
            )
          )
        )
      )
    )
  ) := by kernel_rfl
theorem J42x45xeq (C : Cal) (b2x0 : Bool) (b2x1 : Bool) (b2x2 : Bool) (b2x3 : Bool) (i3 : Int) (b18 : Bool) (h : Heap) : J42x45 mk0 C b2x0 b2x1 b2x2 b2x3 i3 b18 h = (
  if b18 = true then
    (
    some ((.agg [(.bool true), (.bool true), (.bool false), (.bool true)]), h)
    )
  else
    (
    letK ((decide ((i3 : Int) = 11)) : Bool) fun b25 =>
    if b25 = true then
      (
      some ((.agg [(.bool true), (.bool false), (.bool false), (.bool true)]), h)
      )
    else
      (
      letK ((decide ((i3 : Int) = 13)) : Bool) fun b28 =>
      if b28 = true then
        (
        J42x62 mk0 C b2x0 b2x1 b2x2 b2x3 i3 b28 h
        )
      else
        (
        letK ((decide ((i3 : Int) = 16)) : Bool) fun b29 =>
        if b29 = true then
          (
          J42x61 mk0 C b2x0 b2x1 b2x2 b2x3 i3 b29 h
          )
        else
          (
          letK ((decide ((i3 : Int) = 17)) : Bool) fun b30 =>
          if b30 = true then
            (
            J42x60 mk0 C b2x0 b2x1 b2x2 b2x3 i3 b30 h
            )
          else
            (
            letK ((decide ((i3 : Int) = 18)) : Bool) fun b31 =>
            J42x60 mk0 C b2x0 b2x1 b2x2 b2x3 i3 b31 h
            )
          )
        )
      )
    )
  ) := join_eqn (seqQ (evalE mk0 C k42x36) (seqQ (evalE mk0 C k42x33) (seqQ (evalE mk0 C k42x8) (blockQ 0 (seqQ (evalE mk0 C k42x3) (seqQ (evalE mk0 C k42x1) (endQ [.cell 2 (.agg [.bool, .bool, .bool, .bool])]))))))) (.any :: .any :: (.box [(.bool b2x0), (.bool b2x1), (.bool b2x2), (.bool b2x3)] :: (.g [] true (.int .i64 i3) :: (rep 14 (.g [] true (.bool b18) :: (rep 23 [])))))) h (J42x45xaux mk0 C b2x0 b2x1 b2x2 b2x3 i3 b18 h)
theorem J42x44xaux (M : Mk) (C : Cal) (b2x0 : Bool) (b2x1 : Bool) (b2x2 : Bool) (b2x3 : Bool) (i3 : Int) (b18 : Bool) (h : Heap) : (forceK tk (.any :: .any :: (.box [(.bool b2x0), (.bool b2x1), (.bool b2x2), (.bool b2x3)] :: (.g [] true (.int .i64 i3) :: (rep 14 (.g [] true (.bool b18) :: (rep 23 [])))))) fun e => (seqQ (evalE M C k42x38) (seqQ (evalE M C k42x36) (seqQ (evalE M C k42x33) (seqQ (evalE M C k42x8) (blockQ 0 (seqQ (evalE M C k42x3) (seqQ (evalE M C k42x1) (endQ [.cell 2 (.agg [.bool, .bool, .bool, .bool])])))))))) .normal ⟨e, h⟩) = (
  J42x45 M C b2x0 b2x1 b2x2 b2x3 i3 b18 h
  ) := by kernel_rfl
theorem J42x44xeq (C : Cal) (b2x0 : Bool) (b2x1 : Bool) (b2x2 : Bool) (b2x3 : Bool) (i3 : Int) (b18 : Bool) (h : Heap) : J42x44 mk0 C b2x0 b2x1 b2x2 b2x3 i3 b18 h = (
  J42x45 mk0 C b2x0 b2x1 b2x2 b2x3 i3 b18 h
  ) := join_eqn (seqQ (evalE mk0 C k42x38) (seqQ (evalE mk0 C k42x36) (seqQ (evalE mk0 C k42x33) (seqQ (evalE mk0 C k42x8) (blockQ 0 (seqQ (evalE mk0 C k42x3) (seqQ (evalE mk0 C k42x1) (endQ [.cell 2 (.agg [.bool, .bool, .bool, .bool])])))))))) (.any :: .any :: (.box [(.bool b2x0), (.bool b2x1), (.bool b2x2), (.bool b2x3)] :: (.g [] true (.int .i64 i3) :: (rep 14 (.g [] true (.bool b18) :: (rep 23 [])))))) h (J42x44xaux mk0 C b2x0 b2x1 b2x2 b2x3 i3 b18 h)
theorem J42x43xaux (M : Mk) (C : Cal) (b2x0 : Bool) (b2x1 : Bool) (b2x2 : Bool) (b2x3 : Bool) (i3 : Int) (b18 : Bool) (h : Heap) : (forceK tk (.any :: .any :: (.box [(.bool b2x0), (.bool b2x1), (.bool b2x2), (.bool b2x3)] :: (.g [] true (.int .i64 i3) :: (rep 14 (.g [] true (.bool b18) :: (rep 23 [])))))) fun e => (seqQ (evalE M C k42x40) (seqQ (evalE M C k42x38) (seqQ (evalE M C k42x36) (seqQ (evalE M C k42x33) (seqQ (evalE M C k42x8) (blockQ 0 (seqQ (evalE M C k42x3) (seqQ (evalE M C k42x1) (endQ [.cell 2 (.agg [.bool, .bool, .bool, .bool])]))))))))) .normal ⟨e, h⟩) = (
  J42x44 M C b2x0 b2x1 b2x2 b2x3 i3 b18 h
  ) := by kernel_rfl
theorem J42x43xeq (C : Cal) (b2x0 : Bool) (b2x1 : Bool) (b2x2 : Bool) (b2x3 : Bool) (i3 : Int) (b18 : Bool) (h : Heap) : J42x43 mk0 C b2x0 b2x1 b2x2 b2x3 i3 b18 h = (
  J42x44 mk0 C b2x0 b2x1 b2x2 b2x3 i3 b18 h
  ) := join_eqn (seqQ (evalE mk0 C k42x40) (seqQ (evalE mk0 C k42x38) (seqQ (evalE mk0 C k42x36) (seqQ (evalE mk0 C k42x33) (seqQ (evalE mk0 C k42x8) (blockQ 0 (seqQ (evalE mk0 C k42x3) (seqQ (evalE mk0 C k42x1) (endQ [.cell 2 (.agg [.bool, .bool, .bool, .bool])]))))))))) (.any :: .any :: (.box [(.bool b2x0), (.bool b2x1), (.bool b2x2), (.bool b2x3)] :: (.g [] true (.int .i64 i3) :: (rep 14 (.g [] true (.bool b18) :: (rep 23 [])))))) h (J42x43xaux mk0 C b2x0 b2x1 b2x2 b2x3 i3 b18 h)
theorem J42x62xaux (M : Mk) (C : Cal) (b2x0 : Bool) (b2x1 : Bool) (b2x2 : Bool) (b2x3 : Bool) (i3 : Int) (b27 : Bool) (h : Heap) : (forceK tk (.any :: .any :: (.box [(.bool b2x0), (.bool b2x1), (.bool b2x2), (.bool b2x3)] :: (.g [] true (.int .i64 i3) :: (rep 23 (.g [] true (.bool b27) :: (rep 14 [])))))) fun e => (seqQ (evalE M C k42x53) (seqQ (evalE M C k42x50) (seqQ (evalE M C k42x46) (seqQ (evalE M C k42x33) (seqQ (evalE M C k42x8) (blockQ 0 (seqQ (evalE M C k42x3) (seqQ (evalE M C k42x1) (endQ [.cell 2 (.agg [.bool, .bool, .bool, .bool])]))))))))) .normal ⟨e, h⟩) = (
  if b27 = true then
    (
    some ((.agg [(.bool false), (.bool true), (.bool true), (.bool true)]), h)
    )
  else
    (
    letK ((decide ((i3 : Int) = 14)) : Bool) fun b34 =>
    if b34 = true then
      (
      some ((.agg [(.bool true), (.bool false), (.bool true), (.bool true)]), h)
      )
    else
      (
      letK ((decide ((i3 : Int) = 19)) : Bool) fun b37 =>
      if b37 = true then
        (
        J42x76 M C b2x0 b2x1 b2x2 b2x3 b37 h
        )
      else
        (
        letK ((decide ((i3 : Int) = 20)) : Bool) fun b38 =>
        if b38 = true then
          (
          J42x75 M C b2x0 b2x1 b2x2 b2x3 b38 h
          )
        else
          (
          letK ((decide ((i3 : Int) = 24)) : Bool) fun b39 =>
          J42x75 M C b2x0 b2x1 b2x2 b2x3 b39 h
          )
        )
      )
    )
  ) := by kernel_rfl
theorem J42x62xeq (C : Cal) (b2x0 : Bool) (b2x1 : Bool) (b2x2 : Bool) (b2x3 : Bool) (i3 : Int) (b27 : Bool) (h : Heap) : J42x62 mk0 C b2x0 b2x1 b2x2 b2x3 i3 b27 h = (
  if b27 = true then
    (
    some ((.agg [(.bool false), (.bool true), (.bool true), (.bool true)]), h)
    )
  else
    (
    letK ((decide ((i3 : Int) = 14)) : Bool) fun b34 =>
    if b34 = true then
      (
      some ((.agg [(.bool true), (.bool false), (.bool true), (.bool true)]), h)
      )
    else
      (
      letK ((decide ((i3 : Int) = 19)) : Bool) fun b37 =>
      if b37 = true then
        (
        J42x76 mk0 C b2x0 b2x1 b2x2 b2x3 b37 h
        )
      else
        (
        letK ((decide ((i3 : Int) = 20)) : Bool) fun b38 =>
        if b38 = true then
          (
          J42x75 mk0 C b2x0 b2x1 b2x2 b2x3 b38 h
          )
        else
          (
          letK ((decide ((i3 : Int) = 24)) : Bool) fun b39 =>
          J42x75 mk0 C b2x0 b2x1 b2x2 b2x3 b39 h
          )
        )
      )
    )
  ) := join_eqn (seqQ (evalE mk0 C k42x53) (seqQ (evalE mk0 C k42x50) (seqQ (evalE mk0 C k42x46) (seqQ (evalE mk0 C k42x33) (seqQ (evalE mk0 C k42x8) (blockQ 0 (seqQ (evalE mk0 C k42x3) (seqQ (evalE mk0 C k42x1) (endQ [.cell 2 (.agg [.bool, .bool, .bool, .bool])]))))))))) (.any :: .any :: (.box [(.bool b2x0), (.bool b2x1), (.bool b2x2), (.bool b2x3)] :: (.g [] true (.int .i64 i3) :: (rep 23 (.g [] true (.bool b27) :: (rep 14 [])))))) h (J42x62xaux mk0 C b2x0 b2x1 b2x2 b2x3 i3 b27 h)
theorem J42x61xaux (M : Mk) (C : Cal) (b2x0 : Bool) (b2x1 : Bool) (b2x2 : Bool) (b2x3 : Bool) (i3 : Int) (b27 : Bool) (h : Heap) : (forceK tk (.any :: .any :: (.box [(.bool b2x0), (.bool b2x1), (.bool b2x2), (.bool b2x3)] :: (.g [] true (.int .i64 i3) :: (rep 23 (.g [] true (.bool b27) :: (rep 14 [])))))) fun e => (seqQ (evalE M C k42x55) (seqQ (evalE M C k42x53) (seqQ (evalE M C k42x50) (seqQ (evalE M C k42x46) (seqQ (evalE M C k42x33) (seqQ (evalE M C k42x8) (blockQ 0 (seqQ (evalE M C k42x3) (seqQ (evalE M C k42x1) (endQ [.cell 2 (.agg [.bool, .bool, .bool, .bool])])))))))))) .normal ⟨e, h⟩) = (
  J42x62 M C b2x0 b2x1 b2x2 b2x3 i3 b27 h
  ) := by kernel_rfl
theorem J42x61xeq (C : Cal) (b2x0 : Bool) (b2x1 : Bool) (b2x2 : Bool) (b2x3 : Bool) (i3 : Int) (b27 : Bool) (h : Heap) : J42x61 mk0 C b2x0 b2x1 b2x2 b2x3 i3 b27 h = (
  J42x62 mk0 C b2x0 b2x1 b2x2 b2x3 i3 b27 h
  ) := join_eqn (seqQ (evalE mk0 C k42x55) (seqQ (evalE mk0 C k42x53) (seqQ (evalE mk0 C k42x50) (seqQ (evalE mk0 C k42x46) (seqQ (evalE mk0 C k42x33) (seqQ (evalE mk0 C k42x8) (blockQ 0 (seqQ (evalE mk0 C k42x3) (seqQ (evalE mk0 C k42x1) (endQ [.cell 2 (.agg [.bool, .bool, .bool, .bool])])))))))))) (.any :: .any :: (.box [(.bool b2x0), (.bool b2x1), (.bool b2x2), (.bool b2x3)] :: (.g [] true (.int .i64 i3) :: (rep 23 (.g [] true (.bool b27) :: (rep 14 [])))))) h (J42x61xaux mk0 C b2x0 b2x1 b2x2 b2x3 i3 b27 h)
theorem J42x60xaux (M : Mk) (C : Cal) (b2x0 : Bool) (b2x1 : Bool) (b2x2 : Bool) (b2x3 : Bool) (i3 : Int) (b27 : Bool) (h : Heap) : (forceK tk (.any :: .any :: (.box [(.bool b2x0), (.bool b2x1), (.bool b2x2), (.bool b2x3)] :: (.g [] true (.int .i64 i3) :: (rep 23 (.g [] true (.bool b27) :: (rep 14 [])))))) fun e => (seqQ (evalE M C k42x57) (seqQ (evalE M C k42x55) (seqQ (evalE M C k42x53) (seqQ (evalE M C k42x50) (seqQ (evalE M C k42x46) (seqQ (evalE M C k42x33) (seqQ (evalE M C k42x8) (blockQ 0 (seqQ (evalE M C k42x3) (seqQ (evalE M C k42x1) (endQ [.cell 2 (.agg [.bool, .bool, .bool, .bool])]))))))))))) .normal ⟨e, h⟩) = (
  J42x61 M C b2x0 b2x1 b2x2 b2x3 i3 b27 h
  ) := by kernel_rfl
theorem J42x60xeq (C : Cal) (b2x0 : Bool) (b2x1 : Bool) (b2x2 : Bool) (b2x3 : Bool) (i3 : Int) (b27 : Bool) (h : Heap) : J42x60 mk0 C b2x0 b2x1 b2x2 b2x3 i3 b27 h = (
  J42x61 mk0 C b2x0 b2x1 b2x2 b2x3 i3 b27 h
  ) := join_eqn (seqQ (evalE mk0 C k42x57) (seqQ (evalE mk0 C k42x55) (seqQ (evalE mk0 C k42x53) (seqQ (evalE mk0 C k42x50) (seqQ (evalE mk0 C k42x46) (seqQ (evalE mk0 C k42x33) (seqQ (evalE mk0 C k42x8) (blockQ 0 (seqQ (evalE mk0 C k42x3) (seqQ (evalE mk0 C k42x1) (endQ [.cell 2 (.agg [.bool, .bool, .bool, .bool])]))))))))))) (.any :: .any :: (.box [(.bool b2x0), (.bool b2x1), (.bool b2x2), (.bool b2x3)] :: (.g [] true (.int .i64 i3) :: (rep 23 (.g [] true (.bool b27) :: (rep 14 [])))))) h (J42x60xaux mk0 C b2x0 b2x1 b2x2 b2x3 i3 b27 h)
theorem J42x76xaux (M : Mk) (C : Cal) (b2x0 : Bool) (b2x1 : Bool) (b2x2 : Bool) (b2x3 : Bool) (b36 : Bool) (h : Heap) : (forceK tk (.any :: .any :: (.box [(.bool b2x0), (.bool b2x1), (.bool b2x2), (.bool b2x3)] :: (rep 33 (.g [] true (.bool b36) :: (rep 5 []))))) fun e => (seqQ (evalE M C k42x70) (seqQ (evalE M C k42x67) (seqQ (evalE M C k42x63) (seqQ (evalE M C k42x50) (seqQ (evalE M C k42x46) (seqQ (evalE M C k42x33) (seqQ (evalE M C k42x8) (blockQ 0 (seqQ (evalE M C k42x3) (seqQ (evalE M C k42x1) (endQ [.cell 2 (.agg [.bool, .bool, .bool, .bool])]))))))))))) .normal ⟨e, h⟩) = (
  if b36 = true then
    (
    some ((.agg [(.bool false), (.bool false), (.bool false), (.bool true)]), h)
    )
  else
    (
    some ((.agg [(.bool false), (.bool true), (.bool false), (.bool false)]), h)
    )
  ) := by kernel_rfl
theorem J42x76xeq (C : Cal) (b2x0 : Bool) (b2x1 : Bool) (b2x2 : Bool) (b2x3 : Bool) (b36 : Bool) (h : Heap) : J42x76 mk0 C b2x0 b2x1 b2x2 b2x3 b36 h = (
  if b36 = true then
    (
    some ((.agg [(.bool false), (.bool false), (.bool false), (.bool true)]), h)
    )
  else
    (
    some ((.agg [(.bool false), (.bool true), (.bool false), (.bool false)]), h)
    )
  ) := join_eqn (seqQ (evalE mk0 C k42x70) (seqQ (evalE mk0 C k42x67) (seqQ (evalE mk0 C k42x63) (seqQ (evalE mk0 C k42x50) (seqQ (evalE mk0 C k42x46) (seqQ (evalE mk0 C k42x33) (seqQ (evalE mk0 C k42x8) (blockQ 0 (seqQ (evalE mk0 C k42x3) (seqQ (evalE mk0 C k42x1) (endQ [.cell 2 (.agg [.bool, .bool, .bool, .bool])]))))))))))) (.any :: .any :: (.box [(.bool b2x0), (.bool b2x1), (.bool b2x2), (.bool b2x3)] :: (rep 33 (.g [] true (.bool b36) :: (rep 5 []))))) h (J42x76xaux mk0 C b2x0 b2x1 b2x2 b2x3 b36 h)
theorem J42x75xaux (M : Mk) (C : Cal) (b2x0 : Bool) (b2x1 : Bool) (b2x2 : Bool) (b2x3 : Bool) (b36 : Bool) (h : Heap) : (forceK tk (.any :: .any :: (.box [(.bool b2x0), (.bool b2x1), (.bool b2x2), (.bool b2x3)] :: (rep 33 (.g [] true (.bool b36) :: (rep 5 []))))) fun e => (seqQ (evalE M C k42x72) (seqQ (evalE M C k42x70) (seqQ (evalE M C k42x67) (seqQ (evalE M C k42x63) (seqQ (evalE M C k42x50) (seqQ (evalE M C k42x46) (seqQ (evalE M C k42x33) (seqQ (evalE M C k42x8) (blockQ 0 (seqQ (evalE M C k42x3) (seqQ (evalE M C k42x1) (endQ [.cell 2 (.agg [.bool, .bool, .bool, .bool])])))))))))))) .normal ⟨e, h⟩) = (
  J42x76 M C b2x0 b2x1 b2x2 b2x3 b36 h
  ) := by kernel_rfl
theorem J42x75xeq (C : Cal) (b2x0 : Bool) (b2x1 : Bool) (b2x2 : Bool) (b2x3 : Bool) (b36 : Bool) (h : Heap) : J42x75 mk0 C b2x0 b2x1 b2x2 b2x3 b36 h = (
  J42x76 mk0 C b2x0 b2x1 b2x2 b2x3 b36 h
  ) := join_eqn (seqQ (evalE mk0 C k42x72) (seqQ (evalE mk0 C k42x70) (seqQ (evalE mk0 C k42x67) (seqQ (evalE mk0 C k42x63) (seqQ (evalE mk0 C k42x50) (seqQ (evalE mk0 C k42x46) (seqQ (evalE mk0 C k42x33) (seqQ (evalE mk0 C k42x8) (blockQ 0 (seqQ (evalE mk0 C k42x3) (seqQ (evalE mk0 C k42x1) (endQ [.cell 2 (.agg [.bool, .bool, .bool, .bool])])))))))))))) (.any :: .any :: (.box [(.bool b2x0), (.bool b2x1), (.bool b2x2), (.bool b2x3)] :: (rep 33 (.g [] true (.bool b36) :: (rep 5 []))))) h (J42x75xaux mk0 C b2x0 b2x1 b2x2 b2x3 b36 h)
def k28x5 : AC := .ret
def k28x4 : AC := .seq (.mask 4) k28x5
def k28x3 : AC := .mask 2
def k28x2 : AC := .seq (.cond (.tmp 7)
   (.seq (.ops false [
      ⟨(some 2), .move (.c (.int .i64 1)), none, []⟩]) k28x4)
   (.skip)) k28x3
def k28x10 : AC := .ret
def k28x9 : AC := .seq (.mask 4) k28x10
def k28x8 : AC := .mask 2
def k28x7 : AC := .seq (.cond (.tmp 29)
   (.seq (.ops false [
      ⟨(some 2), .move (.c (.int .i64 4)), none, []⟩]) k28x9)
   (.skip)) k28x8
def k28x16 : AC := .ret
def k28x15 : AC := .seq (.mask 4) k28x16
def k28x14 : AC := .mask 2
def k28x13 : AC := .seq (.cond (.tmp 70)
   (.seq (.ops false [
      ⟨(some 2), .move (.c (.int .i64 3)), none, []⟩]) k28x15)
   (.skip)) k28x14
def k28x21 : AC := .ret
def k28x20 : AC := .seq (.mask 4) k28x21
def k28x19 : AC := .mask 0
def k28x18 : AC := .seq (.cond (.tmp 106)
   (.seq (.ops false [
      ⟨(some 2), .move (.c (.int .i64 4)), none, []⟩]) k28x20)
   (.skip)) k28x19
def k28x23 : AC := .ret
def k28x22 : AC := .seq (.mask 4) k28x23
def k28x17 : AC := .seq (.ops false [
    ⟨(some 2), .move (.c (.int .i64 0)), none, []⟩]) k28x22
def k28x12 : AC := .seq (.seq (.ops true [
    ⟨(some 71), .fieldAddr 0 (.tmp 1), none, []⟩,
    ⟨(some 72), .load (.cell (.int .i64)) (.tmp 71), none, []⟩,
    ⟨(some 73), .bin .other .eql (.tmp 72) (.c (.int .i64 9)), none, []⟩,
    ⟨(some 74), .move (.tmp 73), none, []⟩,
    ⟨(some 75), .fieldAddr 0 (.tmp 1), (some (74, false)), []⟩,
    ⟨(some 76), .load (.cell (.int .i64)) (.tmp 75), (some (74, false)), []⟩,
    ⟨(some 77), .bin .other .eql (.tmp 76) (.c (.int .i64 10)), (some (74, false)), []⟩,
    ⟨(some 78), .pick (.tmp 74) (.c (.bool true)) (.tmp 77), none, []⟩,
    ⟨(some 79), .move (.tmp 78), none, []⟩,
    ⟨(some 80), .fieldAddr 4 (.tmp 1), (some (79, true)), []⟩,
    ⟨(some 81), .load (.cell (.int .i64)) (.tmp 80), (some (79, true)), []⟩,
    ⟨(some 82), .call 41 [(.tmp 81), (.c (.int .i64 0)), (.c (.int .i64 31))] [(.cell .bool)] (.bool false), (some (79, true)), []⟩,
    ⟨(some 83), .un .not (.tmp 82), (some (79, true)), []⟩,
    ⟨(some 84), .pick (.tmp 79) (.tmp 83) (.c (.bool false)), none, []⟩,
    ⟨(some 85), .move (.tmp 84), none, []⟩,
    ⟨(some 86), .fieldAddr 0 (.tmp 1), (some (85, false)), []⟩,
    ⟨(some 87), .load (.cell (.int .i64)) (.tmp 86), (some (85, false)), []⟩,
    ⟨(some 88), .bin .other .eql (.tmp 87) (.c (.int .i64 14)), (some (85, false)), []⟩,
    ⟨(some 89), .move (.tmp 88), (some (85, false)), []⟩,
    ⟨(some 90), .fieldAddr 4 (.tmp 1), (some (89, true)), []⟩,
    ⟨(some 91), .load (.cell (.int .i64)) (.tmp 90), (some (89, true)), []⟩,
    ⟨(some 92), .call 41 [(.tmp 91), (.c (.int .i64 0)), (.c (.int .i64 4095))] [(.cell .bool)] (.bool false), (some (89, true)), []⟩,
    ⟨(some 93), .un .not (.tmp 92), (some (89, true)), []⟩,
    ⟨(some 94), .pick (.tmp 89) (.tmp 93) (.c (.bool false)), (some (85, false)), []⟩,
    ⟨(some 95), .pick (.tmp 85) (.c (.bool true)) (.tmp 94), none, []⟩,
    ⟨(some 96), .move (.tmp 95), none, []⟩,
    ⟨(some 97), .fieldAddr 0 (.tmp 1), (some (96, false)), []⟩,
    ⟨(some 98), .load (.cell (.int .i64)) (.tmp 97), (some (96, false)), []⟩,
    ⟨(some 99), .bin .other .eql (.tmp 98) (.c (.int .i64 24)), (some (96, false)), []⟩,
    ⟨(some 100), .move (.tmp 99), (some (96, false)), []⟩,
    ⟨(some 101), .fieldAddr 4 (.tmp 1), (some (100, true)), []⟩,
    ⟨(some 102), .load (.cell (.int .i64)) (.tmp 101), (some (100, true)), []⟩,
    ⟨(some 103), .call 41 [(.tmp 102), (.c (.int .i64 1)), (.c (.int .i64 6))] [(.cell .bool)] (.bool false), (some (100, true)), []⟩,
    ⟨(some 104), .un .not (.tmp 103), (some (100, true)), []⟩,
    ⟨(some 105), .pick (.tmp 100) (.tmp 104) (.c (.bool false)), (some (96, false)), []⟩,
    ⟨(some 106), .pick (.tmp 96) (.c (.bool true)) (.tmp 105), none, []⟩]) k28x18) k28x17
def k28x11 : AC := .seq (.seq (.ops true [
    ⟨(some 33), .fieldAddr 0 (.tmp 3), none, []⟩,
    ⟨(some 34), .load (.cell .bool) (.tmp 33), none, []⟩,
    ⟨(some 35), .un .not (.tmp 34), none, []⟩,
    ⟨(some 36), .move (.tmp 35), none, []⟩,
    ⟨(some 37), .fieldAddr 1 (.tmp 1), (some (36, true)), []⟩,
    ⟨(some 38), .load (.cell (.int .i64)) (.tmp 37), (some (36, true)), []⟩,
    ⟨(some 39), .bin .other .neq (.tmp 38) (.c (.int .i64 0)), (some (36, true)), []⟩,
    ⟨(some 40), .pick (.tmp 36) (.tmp 39) (.c (.bool false)), none, []⟩,
    ⟨(some 41), .move (.tmp 40), none, []⟩,
    ⟨(some 42), .fieldAddr 1 (.tmp 3), (some (41, false)), []⟩,
    ⟨(some 43), .load (.cell .bool) (.tmp 42), (some (41, false)), []⟩,
    ⟨(some 44), .un .not (.tmp 43), (some (41, false)), []⟩,
    ⟨(some 45), .move (.tmp 44), (some (41, false)), []⟩,
    ⟨(some 46), .fieldAddr 2 (.tmp 1), (some (45, true)), []⟩,
    ⟨(some 47), .load (.cell (.int .i64)) (.tmp 46), (some (45, true)), []⟩,
    ⟨(some 48), .bin .other .neq (.tmp 47) (.c (.int .i64 0)), (some (45, true)), []⟩,
    ⟨(some 49), .pick (.tmp 45) (.tmp 48) (.c (.bool false)), (some (41, false)), []⟩,
    ⟨(some 50), .pick (.tmp 41) (.c (.bool true)) (.tmp 49), none, []⟩,
    ⟨(some 51), .move (.tmp 50), none, []⟩,
    ⟨(some 52), .fieldAddr 2 (.tmp 3), (some (51, false)), []⟩,
    ⟨(some 53), .load (.cell .bool) (.tmp 52), (some (51, false)), []⟩,
    ⟨(some 54), .un .not (.tmp 53), (some (51, false)), []⟩,
    ⟨(some 55), .move (.tmp 54), (some (51, false)), []⟩,
    ⟨(some 56), .fieldAddr 3 (.tmp 1), (some (55, true)), []⟩,
    ⟨(some 57), .load (.cell (.int .i64)) (.tmp 56), (some (55, true)), []⟩,
    ⟨(some 58), .bin .other .neq (.tmp 57) (.c (.int .i64 0)), (some (55, true)), []⟩,
    ⟨(some 59), .pick (.tmp 55) (.tmp 58) (.c (.bool false)), (some (51, false)), []⟩,
    ⟨(some 60), .pick (.tmp 51) (.c (.bool true)) (.tmp 59), none, []⟩,
    ⟨(some 61), .move (.tmp 60), none, []⟩,
    ⟨(some 62), .fieldAddr 3 (.tmp 3), (some (61, false)), []⟩,
    ⟨(some 63), .load (.cell .bool) (.tmp 62), (some (61, false)), []⟩,
    ⟨(some 64), .un .not (.tmp 63), (some (61, false)), []⟩,
    ⟨(some 65), .move (.tmp 64), (some (61, false)), []⟩,
    ⟨(some 66), .fieldAddr 4 (.tmp 1), (some (65, true)), []⟩,
    ⟨(some 67), .load (.cell (.int .i64)) (.tmp 66), (some (65, true)), []⟩,
    ⟨(some 68), .bin .other .neq (.tmp 67) (.c (.int .i64 0)), (some (65, true)), []⟩,
    ⟨(some 69), .pick (.tmp 65) (.tmp 68) (.c (.bool false)), (some (61, false)), []⟩,
    ⟨(some 70), .pick (.tmp 61) (.c (.bool true)) (.tmp 69), none, []⟩]) k28x13) k28x12
def k28x6 : AC := .seq (.ops false [
    ⟨(some 30), .fieldAddr 0 (.tmp 1), none, []⟩,
    ⟨(some 31), .load (.cell (.int .i64)) (.tmp 30), none, []⟩,
    ⟨(some 32), .call 42 [(.tmp 31)] [(.agg [.bool, .bool, .bool, .bool])] (.agg [(.bool false), (.bool false), (.bool false), (.bool false)]), none, []⟩,
    ⟨(some 3), .allocL [(.bool false), (.bool false), (.bool false), (.bool false)], none, []⟩,
    ⟨none, .store 4 (.tmp 3) (.tmp 32), none, []⟩]) k28x11
def k28x1 : AC := .seq (.seq (.ops true [
    ⟨(some 8), .fieldAddr 1 (.tmp 1), none, []⟩,
    ⟨(some 9), .load (.cell (.int .i64)) (.tmp 8), none, []⟩,
    ⟨(some 10), .call 41 [(.tmp 9), (.c (.int .i64 0)), (.c (.int .i64 15))] [(.cell .bool)] (.bool false), none, []⟩,
    ⟨(some 11), .un .not (.tmp 10), none, []⟩,
    ⟨(some 12), .move (.tmp 11), none, []⟩,
    ⟨(some 13), .fieldAddr 2 (.tmp 1), (some (12, false)), []⟩,
    ⟨(some 14), .load (.cell (.int .i64)) (.tmp 13), (some (12, false)), []⟩,
    ⟨(some 15), .call 41 [(.tmp 14), (.c (.int .i64 0)), (.c (.int .i64 15))] [(.cell .bool)] (.bool false), (some (12, false)), []⟩,
    ⟨(some 16), .un .not (.tmp 15), (some (12, false)), []⟩,
    ⟨(some 17), .pick (.tmp 12) (.c (.bool true)) (.tmp 16), none, []⟩,
    ⟨(some 18), .move (.tmp 17), none, []⟩,
    ⟨(some 19), .fieldAddr 3 (.tmp 1), (some (18, false)), []⟩,
    ⟨(some 20), .load (.cell (.int .i64)) (.tmp 19), (some (18, false)), []⟩,
    ⟨(some 21), .call 41 [(.tmp 20), (.c (.int .i64 0)), (.c (.int .i64 15))] [(.cell .bool)] (.bool false), (some (18, false)), []⟩,
    ⟨(some 22), .un .not (.tmp 21), (some (18, false)), []⟩,
    ⟨(some 23), .pick (.tmp 18) (.c (.bool true)) (.tmp 22), none, []⟩,
    ⟨(some 24), .move (.tmp 23), none, []⟩,
    ⟨(some 25), .fieldAddr 4 (.tmp 1), (some (24, false)), []⟩,
    ⟨(some 26), .load (.cell (.int .i64)) (.tmp 25), (some (24, false)), []⟩,
    ⟨(some 27), .call 41 [(.tmp 26), (.c (.int .i64 (-2147483648))), (.c (.int .i64 2147483647))] [(.cell .bool)] (.bool false), (some (24, false)), []⟩,
    ⟨(some 28), .un .not (.tmp 27), (some (24, false)), []⟩,
    ⟨(some 29), .pick (.tmp 24) (.c (.bool true)) (.tmp 28), none, []⟩]) k28x7) k28x6
def k28x0 : AC := .seq (.seq (.ops false [
    ⟨(some 4), .fieldAddr 0 (.tmp 1), none, []⟩,
    ⟨(some 5), .load (.cell (.int .i64)) (.tmp 4), none, []⟩,
    ⟨(some 6), .call 41 [(.tmp 5), (.c (.int .i64 0)), (.c (.int .i64 24))] [(.cell .bool)] (.bool false), none, []⟩,
    ⟨(some 7), .un .not (.tmp 6), none, []⟩]) k28x2) k28x1
/-- provenance/insn.Check -/
def c28 : AFn := ⟨107, [.tmp 2],
  .seq (.ops false [
    ⟨(some 1), .boxL (.tmp 0), none, []⟩,
    ⟨(some 2), .move (.c (.int .i64 0)), none, []⟩]) k28x0⟩
theorem r28 (i0x0 : Int) (i0x1 : Int) (i0x2 : Int) (i0x3 : Int) (i0x4 : Int) (h : Heap) : runE M C c28 [(.agg [(.int .i64 i0x0), (.int .i64 i0x1), (.int .i64 i0x2), (.int .i64 i0x3), (.int .i64 i0x4)])] h = (
  (C 41 [(.int .i64 i0x0), (.int .i64 0), (.int .i64 24)] h).bind fun r6 =>
  gB (some r6.1) true fun b6 =>
  if (!b6) = true then
    (
    some ((.int .i64 1), r6.2)
    )
  else
    (
    (C 41 [(.int .i64 i0x1), (.int .i64 0), (.int .i64 15)] r6.2).bind fun r10 =>
    gB (some r10.1) true fun b10 =>
    gI .i64 (some (.int .i64 i0x2)) (!(!b10)) fun i14 =>
    (callO (!(!b10)) (C 41 [(.int .i64 i14), (.int .i64 0), (.int .i64 15)] r10.2) (.bool false) r10.2).bind fun r15 =>
    gB (some r15.1) (!(!b10)) fun b15 =>
    letK ((if (!b10) = true then true else (!b15)) : Bool) fun b17 =>
    gI .i64 (some (.int .i64 i0x3)) (!b17) fun i20 =>
    (callO (!b17) (C 41 [(.int .i64 i20), (.int .i64 0), (.int .i64 15)] r15.2) (.bool false) r15.2).bind fun r21 =>
    gB (some r21.1) (!b17) fun b21 =>
    letK ((if b17 = true then true else (!b21)) : Bool) fun b23 =>
    gI .i64 (some (.int .i64 i0x4)) (!b23) fun i26 =>
    (callO (!b23) (C 41 [(.int .i64 i26), (.int .i64 (-2147483648)), (.int .i64 2147483647)] r21.2) (.bool false) r21.2).bind fun r27 =>
    gB (some r27.1) (!b23) fun b27 =>
    letK ((if b23 = true then true else (!b27)) : Bool) fun b29 =>
    if b29 = true then
      (
      some ((.int .i64 4), r27.2)
      )
    else
      (
      (C 42 [(.int .i64 i0x0)] r27.2).bind fun r32 =>
      gA r32.1 true fun l32 =>
      chk (true = true → l32.length = 4) <|
      gB (l32[0]?) true fun b32x0 =>
      gB (l32[1]?) true fun b32x1 =>
      gB (l32[2]?) true fun b32x2 =>
      gB (l32[3]?) true fun b32x3 =>
      gI .i64 (some (.int .i64 i0x1)) (!b32x0) fun i38 =>
      letK ((!decide ((i38 : Int) = 0)) : Bool) fun b39 =>
      letK ((if (!b32x0) = true then b39 else false) : Bool) fun b40 =>
      gB (some (.bool b32x1)) (!b40) fun b43 =>
      gI .i64 (some (.int .i64 i0x2)) (andB (!b40) (!b43)) fun i47 =>
      letK ((!decide ((i47 : Int) = 0)) : Bool) fun b48 =>
      letK ((if (!b43) = true then b48 else false) : Bool) fun b49 =>
      letK ((if b40 = true then true else b49) : Bool) fun b50 =>
      gB (some (.bool b32x2)) (!b50) fun b53 =>
      gI .i64 (some (.int .i64 i0x3)) (andB (!b50) (!b53)) fun i57 =>
      letK ((!decide ((i57 : Int) = 0)) : Bool) fun b58 =>
      letK ((if (!b53) = true then b58 else false) : Bool) fun b59 =>
      letK ((if b50 = true then true else b59) : Bool) fun b60 =>
      gB (some (.bool b32x3)) (!b60) fun b63 =>
      gI .i64 (some (.int .i64 i0x4)) (andB (!b60) (!b63)) fun i67 =>
      letK ((!decide ((i67 : Int) = 0)) : Bool) fun b68 =>
      letK ((if (!b63) = true then b68 else false) : Bool) fun b69 =>
      letK ((if b60 = true then true else b69) : Bool) fun b70 =>
      if b70 = true then
        (
        some ((.int .i64 3), r32.2)
        )
      else
        (
        letK ((decide ((i0x0 : Int) = 9)) : Bool) fun b73 =>
        gI .i64 (some (.int .i64 i0x0)) (!b73) fun i76 =>
        letK ((decide ((i76 : Int) = 10)) : Bool) fun b77 =>
        letK ((if b73 = true then true else b77) : Bool) fun b78 =>
        gI .i64 (some (.int .i64 i0x4)) b78 fun i81 =>
        (callO b78 (C 41 [(.int .i64 i81), (.int .i64 0), (.int .i64 31)] r32.2) (.bool false) r32.2).bind fun r82 =>
        gB (some r82.1) b78 fun b82 =>
        letK ((if b78 = true then (!b82) else false) : Bool) fun b84 =>
        gI .i64 (some (.int .i64 i0x0)) (!b84) fun i87 =>
        letK ((decide ((i87 : Int) = 14)) : Bool) fun b88 =>
        gI .i64 (some (.int .i64 i0x4)) (andB (!b84) b88) fun i91 =>
        (callO (andB (!b84) b88) (C 41 [(.int .i64 i91), (.int .i64 0), (.int .i64 4095)] r82.2) (.bool false) r82.2).bind fun r92 =>
        gB (some r92.1) (andB (!b84) b88) fun b92 =>
        letK ((if b88 = true then (!b92) else false) : Bool) fun b94 =>
        letK ((if b84 = true then true else b94) : Bool) fun b95 =>
        gI .i64 (some (.int .i64 i0x0)) (!b95) fun i98 =>
        letK ((decide ((i98 : Int) = 24)) : Bool) fun b99 =>
        gI .i64 (some (.int .i64 i0x4)) (andB (!b95) b99) fun i102 =>
        (callO (andB (!b95) b99) (C 41 [(.int .i64 i102), (.int .i64 1), (.int .i64 6)] r92.2) (.bool false) r92.2).bind fun r103 =>
        gB (some r103.1) (andB (!b95) b99) fun b103 =>
        letK ((if b99 = true then (!b103) else false) : Bool) fun b105 =>
        letK ((if b95 = true then true else b105) : Bool) fun b106 =>
        if b106 = true then
          (
          some ((.int .i64 4), r103.2)
          )
        else
          (
          some ((.int .i64 0), r103.2)
          )
        )
      )
    )
  ) := by kernel_rfl
theorem cf28 : cFn Try.prog 28 = some c28 := by kernel_rfl
theorem e28 (i0x0 : Int) (i0x1 : Int) (i0x2 : Int) (i0x3 : Int) (i0x4 : Int) (h : Heap) : E 28 [(.agg [(.int .i64 i0x0), (.int .i64 i0x1), (.int .i64 i0x2), (.int .i64 i0x3), (.int .i64 i0x4)])] h = (
  (E 41 [(.int .i64 i0x0), (.int .i64 0), (.int .i64 24)] h).bind fun r6 =>
  gB (some r6.1) true fun b6 =>
  if (!b6) = true then
    (
    some ((.int .i64 1), r6.2)
    )
  else
    (
    (E 41 [(.int .i64 i0x1), (.int .i64 0), (.int .i64 15)] r6.2).bind fun r10 =>
    gB (some r10.1) true fun b10 =>
    gI .i64 (some (.int .i64 i0x2)) (!(!b10)) fun i14 =>
    (callO (!(!b10)) (E 41 [(.int .i64 i14), (.int .i64 0), (.int .i64 15)] r10.2) (.bool false) r10.2).bind fun r15 =>
    gB (some r15.1) (!(!b10)) fun b15 =>
    letK ((if (!b10) = true then true else (!b15)) : Bool) fun b17 =>
    gI .i64 (some (.int .i64 i0x3)) (!b17) fun i20 =>
    (callO (!b17) (E 41 [(.int .i64 i20), (.int .i64 0), (.int .i64 15)] r15.2) (.bool false) r15.2).bind fun r21 =>
    gB (some r21.1) (!b17) fun b21 =>
    letK ((if b17 = true then true else (!b21)) : Bool) fun b23 =>
    gI .i64 (some (.int .i64 i0x4)) (!b23) fun i26 =>
    (callO (!b23) (E 41 [(.int .i64 i26), (.int .i64 (-2147483648)), (.int .i64 2147483647)] r21.2) (.bool false) r21.2).bind fun r27 =>
    gB (some r27.1) (!b23) fun b27 =>
    letK ((if b23 = true then true else (!b27)) : Bool) fun b29 =>
    if b29 = true then
      (
      some ((.int .i64 4), r27.2)
      )
    else
      (
      (E 42 [(.int .i64 i0x0)] r27.2).bind fun r32 =>
      gA r32.1 true fun l32 =>
      chk (true = true → l32.length = 4) <|
      gB (l32[0]?) true fun b32x0 =>
      gB (l32[1]?) true fun b32x1 =>
      gB (l32[2]?) true fun b32x2 =>
      gB (l32[3]?) true fun b32x3 =>
      gI .i64 (some (.int .i64 i0x1)) (!b32x0) fun i38 =>
      letK ((!decide ((i38 : Int) = 0)) : Bool) fun b39 =>
      letK ((if (!b32x0) = true then b39 else false) : Bool) fun b40 =>
      gB (some (.bool b32x1)) (!b40) fun b43 =>
      gI .i64 (some (.int .i64 i0x2)) (andB (!b40) (!b43)) fun i47 =>
      letK ((!decide ((i47 : Int) = 0)) : Bool) fun b48 =>
      letK ((if (!b43) = true then b48 else false) : Bool) fun b49 =>
      letK ((if b40 = true then true else b49) : Bool) fun b50 =>
      gB (some (.bool b32x2)) (!b50) fun b53 =>
      gI .i64 (some (.int .i64 i0x3)) (andB (!b50) (!b53)) fun i57 =>
      letK ((!decide ((i57 : Int) = 0)) : Bool) fun b58 =>
      letK ((if (!b53) = true then b58 else false) : Bool) fun b59 =>
      letK ((if b50 = true then true else b59) : Bool) fun b60 =>
      gB (some (.bool b32x3)) (!b60) fun b63 =>
      gI .i64 (some (.int .i64 i0x4)) (andB (!b60) (!b63)) fun i67 =>
      letK ((!decide ((i67 : Int) = 0)) : Bool) fun b68 =>
      letK ((if (!b63) = true then b68 else false) : Bool) fun b69 =>
      letK ((if b60 = true then true else b69) : Bool) fun b70 =>
      if b70 = true then
        (
        some ((.int .i64 3), r32.2)
        )
      else
        (
        letK ((decide ((i0x0 : Int) = 9)) : Bool) fun b73 =>
        gI .i64 (some (.int .i64 i0x0)) (!b73) fun i76 =>
        letK ((decide ((i76 : Int) = 10)) : Bool) fun b77 =>
        letK ((if b73 = true then true else b77) : Bool) fun b78 =>
        gI .i64 (some (.int .i64 i0x4)) b78 fun i81 =>
        (callO b78 (E 41 [(.int .i64 i81), (.int .i64 0), (.int .i64 31)] r32.2) (.bool false) r32.2).bind fun r82 =>
        gB (some r82.1) b78 fun b82 =>
        letK ((if b78 = true then (!b82) else false) : Bool) fun b84 =>
        gI .i64 (some (.int .i64 i0x0)) (!b84) fun i87 =>
        letK ((decide ((i87 : Int) = 14)) : Bool) fun b88 =>
        gI .i64 (some (.int .i64 i0x4)) (andB (!b84) b88) fun i91 =>
        (callO (andB (!b84) b88) (E 41 [(.int .i64 i91), (.int .i64 0), (.int .i64 4095)] r82.2) (.bool false) r82.2).bind fun r92 =>
        gB (some r92.1) (andB (!b84) b88) fun b92 =>
        letK ((if b88 = true then (!b92) else false) : Bool) fun b94 =>
        letK ((if b84 = true then true else b94) : Bool) fun b95 =>
        gI .i64 (some (.int .i64 i0x0)) (!b95) fun i98 =>
        letK ((decide ((i98 : Int) = 24)) : Bool) fun b99 =>
        gI .i64 (some (.int .i64 i0x4)) (andB (!b95) b99) fun i102 =>
        (callO (andB (!b95) b99) (E 41 [(.int .i64 i102), (.int .i64 1), (.int .i64 6)] r92.2) (.bool false) r92.2).bind fun r103 =>
        gB (some r103.1) (andB (!b95) b99) fun b103 =>
        letK ((if b99 = true then (!b103) else false) : Bool) fun b105 =>
        letK ((if b95 = true then true else b105) : Bool) fun b106 =>
        if b106 = true then
          (
          some ((.int .i64 4), r103.2)
          )
        else
          (
          some ((.int .i64 0), r103.2)
          )
        )
      )
    )
  ) := (EV_eq (P := Try.prog) (T := T0) rfl cf28 [(.agg [(.int .i64 i0x0), (.int .i64 i0x1), (.int .i64 i0x2), (.int .i64 i0x3), (.int .i64 i0x4)])] h).trans (r28 mk0 E i0x0 i0x1 i0x2 i0x3 i0x4 h)
def k31x6 : AC := .ret
def k31x5 : AC := .seq (.mask 16) k31x6
def k31x4 : AC := .mask 1
def k31x3 : AC := .seq (.cond (.tmp 9)
   (.seq (.ops false [
      ⟨(some 10), .move (.tmp 0), none, []⟩,
      ⟨(some 11), .move (.tmp 1), none, []⟩,
      ⟨(some 12), .bin .other .add (.tmp 10) (.tmp 11), none, []⟩,
      ⟨(some 4), .move (.tmp 12), none, []⟩]) k31x5)
   (.skip)) k31x4
def k31x8 : AC := .ret
def k31x7 : AC := .seq (.mask 16) k31x8
def k31x2 : AC := .seq (.ops false [
    ⟨(some 13), .move (.tmp 0), none, []⟩,
    ⟨(some 4), .move (.tmp 13), none, []⟩]) k31x7
def k31x1 : AC := .seq (.seq (.ops false [
    ⟨(some 8), .move (.tmp 0), none, []⟩,
    ⟨(some 9), .bin .other .lss (.tmp 8) (.c (.int .i64 0)), none, []⟩]) k31x3) k31x2
def k31x0 : AC := .seq (.ops false [
    ⟨(some 5), .move (.tmp 0), none, []⟩,
    ⟨(some 6), .move (.tmp 1), none, []⟩,
    ⟨(some 7), .bin .other .rem (.tmp 5) (.tmp 6), none, []⟩,
    ⟨(some 0), .move (.tmp 7), none, []⟩]) k31x1
/-- provenance/provenanceref4.modulo -/
def c31 : AFn := ⟨14, [.tmp 4],
  .seq (.ops false [
    ⟨(some 4), .move (.c (.int .i64 0)), none, []⟩]) k31x0⟩
theorem r31 (i0 : Int) (i1 : Int) (h : Heap) : runE M C c31 [(.int .i64 i0), (.int .i64 i1)] h = (
  chk (true = true → (i1 : Int) ≠ 0) <|
  letK ((Int.tmod i0 i1) : Int) fun i7 =>
  letK ((decide ((i7 : Int) < 0)) : Bool) fun b9 =>
  if b9 = true then
    (
    letK ((IntKind.wrap .i64 (i7 + i1)) : Int) fun i12 =>
    some ((.int .i64 i12), h)
    )
  else
    (
    some ((.int .i64 i7), h)
    )
  ) := by kernel_rfl
theorem cf31 : cFn Try.prog 31 = some c31 := by kernel_rfl
theorem e31 (i0 : Int) (i1 : Int) (h : Heap) : E 31 [(.int .i64 i0), (.int .i64 i1)] h = (
  chk (true = true → (i1 : Int) ≠ 0) <|
  letK ((Int.tmod i0 i1) : Int) fun i7 =>
  letK ((decide ((i7 : Int) < 0)) : Bool) fun b9 =>
  if b9 = true then
    (
    letK ((IntKind.wrap .i64 (i7 + i1)) : Int) fun i12 =>
    some ((.int .i64 i12), h)
    )
  else
    (
    some ((.int .i64 i7), h)
    )
  ) := (EV_eq (P := Try.prog) (T := T0) rfl cf31 [(.int .i64 i0), (.int .i64 i1)] h).trans (r31 mk0 E i0 i1 h)
def k14x2 : AC := .ret
def k14x1 : AC := .seq (.mask 16) k14x2
def k14x0 : AC := .seq (.ops false [
    ⟨(some 5), .move (.tmp 0), none, []⟩,
    ⟨(some 6), .move (.tmp 1), none, []⟩,
    ⟨(some 7), .call 31 [(.tmp 5), (.tmp 6)] [(.cell (.int .i64))] (.int .i64 0), none, []⟩,
    ⟨(some 4), .move (.tmp 7), none, []⟩]) k14x1
/-- provenance/provenanceref4.Rest -/
def c14 : AFn := ⟨8, [.tmp 4],
  .seq (.ops false [
    ⟨(some 4), .move (.c (.int .i64 0)), none, []⟩]) k14x0⟩
theorem r14 (i0 : Int) (i1 : Int) (h : Heap) : runE M C c14 [(.int .i64 i0), (.int .i64 i1)] h = (
  (C 31 [(.int .i64 i0), (.int .i64 i1)] h).bind fun r7 =>
  gI .i64 (some r7.1) true fun i7 =>
  some ((.int .i64 i7), r7.2)
  ) := by kernel_rfl
theorem cf14 : cFn Try.prog 14 = some c14 := by kernel_rfl
theorem e14 (i0 : Int) (i1 : Int) (h : Heap) : E 14 [(.int .i64 i0), (.int .i64 i1)] h = (
  (E 31 [(.int .i64 i0), (.int .i64 i1)] h).bind fun r7 =>
  gI .i64 (some r7.1) true fun i7 =>
  some ((.int .i64 i7), r7.2)
  ) := (EV_eq (P := Try.prog) (T := T0) rfl cf14 [(.int .i64 i0), (.int .i64 i1)] h).trans (r14 mk0 E i0 i1 h)
def k29x2 : AC := .ret
def k29x1 : AC := .seq (.mask 4) k29x2
def k29x0 : AC := .seq (.ops true [
    ⟨(some 3), .move (.tmp 0), none, []⟩,
    ⟨(some 4), .bin .other .geq (.tmp 3) (.c (.int .i64 1)), none, []⟩,
    ⟨(some 5), .move (.tmp 4), none, []⟩,
    ⟨(some 6), .move (.tmp 0), (some (5, true)), []⟩,
    ⟨(some 7), .bin .other .leq (.tmp 6) (.c (.int .i64 15)), (some (5, true)), []⟩,
    ⟨(some 8), .pick (.tmp 5) (.tmp 7) (.c (.bool false)), none, []⟩,
    ⟨(some 9), .move (.tmp 8), none, []⟩,
    ⟨(some 10), .move (.tmp 0), (some (9, false)), []⟩,
    ⟨(some 11), .bin .other .eql (.tmp 10) (.c (.int .i64 23)), (some (9, false)), []⟩,
    ⟨(some 12), .pick (.tmp 9) (.c (.bool true)) (.tmp 11), none, []⟩,
    ⟨(some 2), .move (.tmp 12), none, []⟩]) k29x1
/-- provenance/timing.Straight -/
def c29 : AFn := ⟨13, [.tmp 2],
  .seq (.ops false [
    ⟨(some 2), .move (.c (.bool false)), none, []⟩]) k29x0⟩
theorem r29 (i0 : Int) (h : Heap) : runE M C c29 [(.int .i64 i0)] h = (
  letK ((decide ((1 : Int) ≤ i0)) : Bool) fun b4 =>
  letK ((decide ((i0 : Int) ≤ 15)) : Bool) fun b7 =>
  letK ((if b4 = true then b7 else false) : Bool) fun b8 =>
  letK ((decide ((i0 : Int) = 23)) : Bool) fun b11 =>
  letK ((if b8 = true then true else b11) : Bool) fun b12 =>
  some ((.bool b12), h)
  ) := by kernel_rfl
theorem cf29 : cFn Try.prog 29 = some c29 := by kernel_rfl
theorem e29 (i0 : Int) (h : Heap) : E 29 [(.int .i64 i0)] h = (
  letK ((decide ((1 : Int) ≤ i0)) : Bool) fun b4 =>
  letK ((decide ((i0 : Int) ≤ 15)) : Bool) fun b7 =>
  letK ((if b4 = true then b7 else false) : Bool) fun b8 =>
  letK ((decide ((i0 : Int) = 23)) : Bool) fun b11 =>
  letK ((if b8 = true then true else b11) : Bool) fun b12 =>
  some ((.bool b12), h)
  ) := (EV_eq (P := Try.prog) (T := T0) rfl cf29 [(.int .i64 i0)] h).trans (r29 mk0 E i0 h)
def k34x6 : AC := .join 50
def k34x5 : AC := .seq (.cond (.tmp 5)
   (.skip)
   (.ops false [
      ⟨(some 7), .bin .other .eql (.tmp 4) (.c (.int .i64 21)), none, []⟩,
      ⟨(some 5), .move (.tmp 7), none, []⟩])) k34x6
def k34x10 : AC := .ret
def k34x9 : AC := .seq (.mask 4) k34x10
def k34x27 : AC := .join 258
def k34x26 : AC := .seq (.cond (.tmp 8)
   (.skip)
   (.ops false [
      ⟨(some 17), .bin .other .eql (.tmp 4) (.c (.int .i64 24)), none, []⟩,
      ⟨(some 8), .move (.tmp 17), none, []⟩])) k34x27
def k34x25 : AC := .join 258
def k34x24 : AC := .seq (.cond (.tmp 8)
   (.skip)
   (.seq (.ops false [
      ⟨(some 16), .bin .other .eql (.tmp 4) (.c (.int .i64 23)), none, []⟩,
      ⟨(some 8), .move (.tmp 16), none, []⟩]) k34x26)) k34x25
def k34x23 : AC := .join 258
def k34x22 : AC := .seq (.cond (.tmp 8)
   (.skip)
   (.seq (.ops false [
      ⟨(some 15), .bin .other .eql (.tmp 4) (.c (.int .i64 22)), none, []⟩,
      ⟨(some 8), .move (.tmp 15), none, []⟩]) k34x24)) k34x23
def k34x21 : AC := .join 258
def k34x20 : AC := .seq (.cond (.tmp 8)
   (.skip)
   (.seq (.ops false [
      ⟨(some 14), .bin .other .eql (.tmp 4) (.c (.int .i64 19)), none, []⟩,
      ⟨(some 8), .move (.tmp 14), none, []⟩]) k34x22)) k34x21
def k34x19 : AC := .join 258
def k34x18 : AC := .seq (.cond (.tmp 8)
   (.skip)
   (.seq (.ops false [
      ⟨(some 13), .bin .other .eql (.tmp 4) (.c (.int .i64 18)), none, []⟩,
      ⟨(some 8), .move (.tmp 13), none, []⟩]) k34x20)) k34x19
def k34x17 : AC := .join 258
def k34x16 : AC := .seq (.cond (.tmp 8)
   (.skip)
   (.seq (.ops false [
      ⟨(some 12), .bin .other .eql (.tmp 4) (.c (.int .i64 17)), none, []⟩,
      ⟨(some 8), .move (.tmp 12), none, []⟩]) k34x18)) k34x17
def k34x15 : AC := .join 258
def k34x14 : AC := .seq (.cond (.tmp 8)
   (.skip)
   (.seq (.ops false [
      ⟨(some 11), .bin .other .eql (.tmp 4) (.c (.int .i64 16)), none, []⟩,
      ⟨(some 8), .move (.tmp 11), none, []⟩]) k34x16)) k34x15
def k34x13 : AC := .join 258
def k34x12 : AC := .seq (.cond (.tmp 8)
   (.skip)
   (.seq (.ops false [
      ⟨(some 10), .bin .other .eql (.tmp 4) (.c (.int .i64 13)), none, []⟩,
      ⟨(some 8), .move (.tmp 10), none, []⟩]) k34x14)) k34x13
def k34x38 : AC := .ret
def k34x37 : AC := .seq (.mask 4) k34x38
def k34x36 : AC := .mask 2
def k34x11 : AC := .seq (.cond (.tmp 8)
   (.seq (.ops false [
      ⟨(some 2), .move (.c (.int .i64 0)), none, []⟩]) k34x37)
   (.skip)) k34x36
def k34x8 : AC := .mask 2
def k34x4 : AC := .seq (.cond (.tmp 5)
   (.seq (.ops false [
      ⟨(some 2), .move (.c (.int .i64 15)), none, []⟩]) k34x9)
   (.seq (.seq (.ops false [
      ⟨(some 9), .bin .other .eql (.tmp 4) (.c (.int .i64 0)), none, []⟩,
      ⟨(some 8), .move (.tmp 9), none, []⟩]) k34x12) k34x11)) k34x8
def k34x3 : AC := .mask 2
def k34x2 : AC := .seq (.block 0 (.seq (.seq (.ops false [
     ⟨(some 6), .bin .other .eql (.tmp 4) (.c (.int .i64 20)), none, []⟩,
     ⟨(some 5), .move (.tmp 6), none, []⟩]) k34x5) k34x4)) k34x3
def k34x40 : AC := .ret
def k34x39 : AC := .seq (.mask 4) k34x40
def k34x1 : AC := .seq (.ops false [
    ⟨(some 18), .fieldAddr 1 (.tmp 1), none, []⟩,
    ⟨(some 19), .load (.cell (.int .i64)) (.tmp 18), none, []⟩,
    ⟨(some 2), .move (.tmp 19), none, []⟩]) k34x39
def k34x0 : AC := .seq (.seq (.ops false [
    ⟨(some 3), .fieldAddr 0 (.tmp 1), none, []⟩,
    ⟨(some 4), .load (.cell (.int .i64)) (.tmp 3), none, []⟩]) k34x2) k34x1
/-- provenance/timing.Writes -/
def c34 : AFn := ⟨20, [.tmp 2],
  .seq (.ops false [
    ⟨(some 1), .boxL (.tmp 0), none, []⟩,
    ⟨(some 2), .move (.c (.int .i64 0)), none, []⟩]) k34x0⟩
noncomputable def J34x7 (M : Mk) (C : Cal) (i1x0 : Int) (i1x1 : Int) (i1x2 : Int) (i1x3 : Int) (i1x4 : Int) (i4 : Int) (b5 : Bool) (h : Heap) : Res := M (AV × Heap) (seqQ (evalE M C k34x4) (blockQ 0 (seqQ (evalE M C k34x3) (seqQ (evalE M C k34x1) (endQ [.tmp 2]))))) (.any :: (.box [(.int .i64 i1x0), (.int .i64 i1x1), (.int .i64 i1x2), (.int .i64 i1x3), (.int .i64 i1x4)] :: (.any :: .any :: (.g [] true (.int .i64 i4) :: (.g [] true (.bool b5) :: (rep 14 [])))))) h
noncomputable def J34x35 (M : Mk) (C : Cal) (i1x0 : Int) (i1x1 : Int) (i1x2 : Int) (i1x3 : Int) (i1x4 : Int) (b8 : Bool) (h : Heap) : Res := M (AV × Heap) (seqQ (evalE M C k34x11) (seqQ (evalE M C k34x8) (blockQ 0 (seqQ (evalE M C k34x3) (seqQ (evalE M C k34x1) (endQ [.tmp 2])))))) (.any :: (.box [(.int .i64 i1x0), (.int .i64 i1x1), (.int .i64 i1x2), (.int .i64 i1x3), (.int .i64 i1x4)] :: (rep 6 (.g [] true (.bool b8) :: (rep 11 []))))) h
noncomputable def J34x34 (M : Mk) (C : Cal) (i1x0 : Int) (i1x1 : Int) (i1x2 : Int) (i1x3 : Int) (i1x4 : Int) (b8 : Bool) (h : Heap) : Res := M (AV × Heap) (seqQ (evalE M C k34x13) (seqQ (evalE M C k34x11) (seqQ (evalE M C k34x8) (blockQ 0 (seqQ (evalE M C k34x3) (seqQ (evalE M C k34x1) (endQ [.tmp 2]))))))) (.any :: (.box [(.int .i64 i1x0), (.int .i64 i1x1), (.int .i64 i1x2), (.int .i64 i1x3), (.int .i64 i1x4)] :: (rep 6 (.g [] true (.bool b8) :: (rep 11 []))))) h
noncomputable def J34x33 (M : Mk) (C : Cal) (i1x0 : Int) (i1x1 : Int) (i1x2 : Int) (i1x3 : Int) (i1x4 : Int) (b8 : Bool) (h : Heap) : Res := M (AV × Heap) (seqQ (evalE M C k34x15) (seqQ (evalE M C k34x13) (seqQ (evalE M C k34x11) (seqQ (evalE M C k34x8) (blockQ 0 (seqQ (evalE M C k34x3) (seqQ (evalE M C k34x1) (endQ [.tmp 2])))))))) (.any :: (.box [(.int .i64 i1x0), (.int .i64 i1x1), (.int .i64 i1x2), (.int .i64 i1x3), (.int .i64 i1x4)] :: (rep 6 (.g [] true (.bool b8) :: (rep 11 []))))) h
noncomputable def J34x32 (M : Mk) (C : Cal) (i1x0 : Int) (i1x1 : Int) (i1x2 : Int) (i1x3 : Int) (i1x4 : Int) (b8 : Bool) (h : Heap) : Res := M (AV × Heap) (seqQ (evalE M C k34x17) (seqQ (evalE M C k34x15) (seqQ (evalE M C k34x13) (seqQ (evalE M C k34x11) (seqQ (evalE M C k34x8) (blockQ 0 (seqQ (evalE M C k34x3) (seqQ (evalE M C k34x1) (endQ [.tmp 2]))))))))) (.any :: (.box [(.int .i64 i1x0), (.int .i64 i1x1), (.int .i64 i1x2), (.int .i64 i1x3), (.int .i64 i1x4)] :: (rep 6 (.g [] true (.bool b8) :: (rep 11 []))))) h
noncomputable def J34x31 (M : Mk) (C : Cal) (i1x0 : Int) (i1x1 : Int) (i1x2 : Int) (i1x3 : Int) (i1x4 : Int) (b8 : Bool) (h : Heap) : Res := M (AV × Heap) (seqQ (evalE M C k34x19) (seqQ (evalE M C k34x17) (seqQ (evalE M C k34x15) (seqQ (evalE M C k34x13) (seqQ (evalE M C k34x11) (seqQ (evalE M C k34x8) (blockQ 0 (seqQ (evalE M C k34x3) (seqQ (evalE M C k34x1) (endQ [.tmp 2])))))))))) (.any :: (.box [(.int .i64 i1x0), (.int .i64 i1x1), (.int .i64 i1x2), (.int .i64 i1x3), (.int .i64 i1x4)] :: (rep 6 (.g [] true (.bool b8) :: (rep 11 []))))) h
noncomputable def J34x30 (M : Mk) (C : Cal) (i1x0 : Int) (i1x1 : Int) (i1x2 : Int) (i1x3 : Int) (i1x4 : Int) (b8 : Bool) (h : Heap) : Res := M (AV × Heap) (seqQ (evalE M C k34x21) (seqQ (evalE M C k34x19) (seqQ (evalE M C k34x17) (seqQ (evalE M C k34x15) (seqQ (evalE M C k34x13) (seqQ (evalE M C k34x11) (seqQ (evalE M C k34x8) (blockQ 0 (seqQ (evalE M C k34x3) (seqQ (evalE M C k34x1) (endQ [.tmp 2]))))))))))) (.any :: (.box [(.int .i64 i1x0), (.int .i64 i1x1), (.int .i64 i1x2), (.int .i64 i1x3), (.int .i64 i1x4)] :: (rep 6 (.g [] true (.bool b8) :: (rep 11 []))))) h
noncomputable def J34x29 (M : Mk) (C : Cal) (i1x0 : Int) (i1x1 : Int) (i1x2 : Int) (i1x3 : Int) (i1x4 : Int) (b8 : Bool) (h : Heap) : Res := M (AV × Heap) (seqQ (evalE M C k34x23) (seqQ (evalE M C k34x21) (seqQ (evalE M C k34x19) (seqQ (evalE M C k34x17) (seqQ (evalE M C k34x15) (seqQ (evalE M C k34x13) (seqQ (evalE M C k34x11) (seqQ (evalE M C k34x8) (blockQ 0 (seqQ (evalE M C k34x3) (seqQ (evalE M C k34x1) (endQ [.tmp 2])))))))))))) (.any :: (.box [(.int .i64 i1x0), (.int .i64 i1x1), (.int .i64 i1x2), (.int .i64 i1x3), (.int .i64 i1x4)] :: (rep 6 (.g [] true (.bool b8) :: (rep 11 []))))) h
noncomputable def J34x28 (M : Mk) (C : Cal) (i1x0 : Int) (i1x1 : Int) (i1x2 : Int) (i1x3 : Int) (i1x4 : Int) (b8 : Bool) (h : Heap) : Res := M (AV × Heap) (seqQ (evalE M C k34x25) (seqQ (evalE M C k34x23) (seqQ (evalE M C k34x21) (seqQ (evalE M C k34x19) (seqQ (evalE M C k34x17) (seqQ (evalE M C k34x15) (seqQ (evalE M C k34x13) (seqQ (evalE M C k34x11) (seqQ (evalE M C k34x8) (blockQ 0 (seqQ (evalE M C k34x3) (seqQ (evalE M C k34x1) (endQ [.tmp 2]))))))))))))) (.any :: (.box [(.int .i64 i1x0), (.int .i64 i1x1), (.int .i64 i1x2), (.int .i64 i1x3), (.int .i64 i1x4)] :: (rep 6 (.g [] true (.bool b8) :: (rep 11 []))))) h
theorem r34 (i0x0 : Int) (i0x1 : Int) (i0x2 : Int) (i0x3 : Int) (i0x4 : Int) (h : Heap) : runE M C c34 [(.agg [(.int .i64 i0x0), (.int .i64 i0x1), (.int .i64 i0x2), (.int .i64 i0x3), (.int .i64 i0x4)])] h = (
  letK ((decide ((i0x0 : Int) = 20)) : Bool) fun b6 =>
  if b6 = true then
    (
    J34x7 M C i0x0 i0x1 i0x2 i0x3 i0x4 i0x0 b6 h
    )
  else
    (
    letK ((decide ((i0x0 : Int) = 21)) : Bool) fun b7 =>
    J34x7 M C i0x0 i0x1 i0x2 i0x3 i0x4 i0x0 b7 h
    )
  ) := by kernel_rfl
theorem cf34 : cFn Try.prog 34 = some c34 := by kernel_rfl
theorem e34 (i0x0 : Int) (i0x1 : Int) (i0x2 : Int) (i0x3 : Int) (i0x4 : Int) (h : Heap) : E 34 [(.agg [(.int .i64 i0x0), (.int .i64 i0x1), (.int .i64 i0x2), (.int .i64 i0x3), (.int .i64 i0x4)])] h = (
  letK ((decide ((i0x0 : Int) = 20)) : Bool) fun b6 =>
  if b6 = true then
    (
    J34x7 mk0 E i0x0 i0x1 i0x2 i0x3 i0x4 i0x0 b6 h
    )
  else
    (
    letK ((decide ((i0x0 : Int) = 21)) : Bool) fun b7 =>
    J34x7 mk0 E i0x0 i0x1 i0x2 i0x3 i0x4 i0x0 b7 h
    )
  ) := (EV_eq (P := Try.prog) (T := T0) rfl cf34 [(.agg [(.int .i64 i0x0), (.int .i64 i0x1), (.int .i64 i0x2), (.int .i64 i0x3), (.int .i64 i0x4)])] h).trans (r34 mk0 E i0x0 i0x1 i0x2 i0x3 i0x4 h)
theorem J34x7xaux (M : Mk) (C : Cal) (i1x0 : Int) (i1x1 : Int) (i1x2 : Int) (i1x3 : Int) (i1x4 : Int) (i4 : Int) (b5 : Bool) (h : Heap) : (forceK tk (.any :: (.box [(.int .i64 i1x0), (.int .i64 i1x1), (.int .i64 i1x2), (.int .i64 i1x3), (.int .i64 i1x4)] :: (.any :: .any :: (.g [] true (.int .i64 i4) :: (.g [] true (.bool b5) :: (rep 14 [])))))) fun e => (seqQ (evalE M C k34x4) (blockQ 0 (seqQ (evalE M C k34x3) (seqQ (evalE M C k34x1) (endQ [.tmp 2]))))) .normal ⟨e, h⟩) = (
  if b5 = true then
    (
    some ((.int .i64 15), h)
    )
  else
    (
    letK ((decide ((i4 : Int) = 0)) : Bool) fun b9 =>
    if b9 = true then
      (
      J34x35 M C i1x0 i1x1 i1x2 i1x3 i1x4 b9 h
      )
    else
      (
      letK ((decide ((i4 : Int) = 13)) : Bool) fun b10 =>
      if b10 = true then
        (
        J34x34 M C i1x0 i1x1 i1x2 i1x3 i1x4 b10 h
        )
      else
        (
        letK ((decide ((i4 : Int) = 16)) : Bool) fun b11 =>
        if b11 = true then
          (
          J34x33 M C i1x0 i1x1 i1x2 i1x3 i1x4 b11 h
          )
        else
          (
          letK ((decide ((i4 : Int) = 17)) : Bool) fun b12 =>
          if b12 = true then
            (
            J34x32 M C i1x0 i1x1 i1x2 i1x3 i1x4 b12 h
            )
          else
            (
            letK ((decide ((i4 : Int) = 18)) : Bool) fun b13 =>
            if b13 = true then
              (
              J34x31 M C i1x0 i1x1 i1x2 i1x3 i1x4 b13 h
              )
            else
              (
              letK ((decide ((i4 : Int) = 19)) : Bool) fun b14 =>
              if b14 = true then
                (
                J34x30 M C i1x0 i1x1 i1x2 i1x3 i1x4 b14 h
                )
              else
                (
                letK ((decide ((i4 : Int) = 22)) : Bool) fun b15 =>
                if b15 = true then
                  (
                  J34x29 M C i1x0 i1x1 i1x2 i1x3 i1x4 b15 h
                  )
                else
                  (
                  letK ((decide ((i4 : Int) = 23)) : Bool) fun b16 =>
                  if b16 = true then
                    (
                    J34x28 M C i1x0 i1x1 i1x2 i1x3 i1x4 b16 h
                    )
                  else
                    (
                    letK ((decide ((i4 : Int) = 24)) : Bool) fun b17 =>
                    J34x28 M C i1x0 i1x1 i1x2 i1x3 i1x4 b17 h
                    )
                  )
                )
              )
            )
          )
        )
      )
    )
  ) := by kernel_rfl
theorem J34x7xeq (C : Cal) (i1x0 : Int) (i1x1 : Int) (i1x2 : Int) (i1x3 : Int) (i1x4 : Int) (i4 : Int) (b5 : Bool) (h : Heap) : J34x7 mk0 C i1x0 i1x1 i1x2 i1x3 i1x4 i4 b5 h = (
  if b5 = true then
    (
    some ((.int .i64 15), h)
    )
  else
    (
    letK ((decide ((i4 : Int) = 0)) : Bool) fun b9 =>
    if b9 = true then
      (
      J34x35 mk0 C i1x0 i1x1 i1x2 i1x3 i1x4 b9 h
      )
    else
      (
      letK ((decide ((i4 : Int) = 13)) : Bool) fun b10 =>
      if b10 = true then
        (
        J34x34 mk0 C i1x0 i1x1 i1x2 i1x3 i1x4 b10 h
        )
      else
        (
        letK ((decide ((i4 : Int) = 16)) : Bool) fun b11 =>
        if b11 = true then
          (
          J34x33 mk0 C i1x0 i1x1 i1x2 i1x3 i1x4 b11 h
          )
        else
          (
          letK ((decide ((i4 : Int) = 17)) : Bool) fun b12 =>
          if b12 = true then
            (
            J34x32 mk0 C i1x0 i1x1 i1x2 i1x3 i1x4 b12 h
            )
          else
            (
            letK ((decide ((i4 : Int) = 18)) : Bool) fun b13 =>
            if b13 = true then
              (
              J34x31 mk0 C i1x0 i1x1 i1x2 i1x3 i1x4 b13 h
              )
            else
              (
              letK ((decide ((i4 : Int) = 19)) : Bool) fun b14 =>
              if b14 = true then
                (
                J34x30 mk0 C i1x0 i1x1 i1x2 i1x3 i1x4 b14 h
                )
              else
                (
                letK ((decide ((i4 : Int) = 22)) : Bool) fun b15 =>
                if b15 = true then
                  (
                  J34x29 mk0 C i1x0 i1x1 i1x2 i1x3 i1x4 b15 h
                  )
                else
                  (
                  letK ((decide ((i4 : Int) = 23)) : Bool) fun b16 =>
                  if b16 = true then
                    (
                    J34x28 mk0 C i1x0 i1x1 i1x2 i1x3 i1x4 b16 h
                    )
                  else
                    (
                    letK ((decide ((i4 : Int) = 24)) : Bool) fun b17 =>
                    J34x28 mk0 C i1x0 i1x1 i1x2 i1x3 i1x4 b17 h
                    )
                  )
                )
              )
            )
          )
        )
      )
    )
  ) := join_eqn (seqQ (evalE mk0 C k34x4) (blockQ 0 (seqQ (evalE mk0 C k34x3) (seqQ (evalE mk0 C k34x1) (endQ [.tmp 2]))))) (.any :: (.box [(.int .i64 i1x0), (.int .i64 i1x1), (.int .i64 i1x2), (.int .i64 i1x3), (.int .i64 i1x4)] :: (.any :: .any :: (.g [] true (.int .i64 i4) :: (.g [] true (.bool b5) :: (rep 14 [])))))) h (J34x7xaux mk0 C i1x0 i1x1 i1x2 i1x3 i1x4 i4 b5 h)
theorem J34x35xaux (M : Mk) (C : Cal) (i1x0 : Int) (i1x1 : Int) (i1x2 : Int) (i1x3 : Int) (i1x4 : Int) (b8 : Bool) (h : Heap) : (forceK tk (.any :: (.box [(.int .i64 i1x0), (.int .i64 i1x1), (.int .i64 i1x2), (.int .i64 i1x3), (.int .i64 i1x4)] :: (rep 6 (.g [] true (.bool b8) :: (rep 11 []))))) fun e => (seqQ (evalE M C k34x11) (seqQ (evalE M C k34x8) (blockQ 0 (seqQ (evalE M C k34x3) (seqQ (evalE M C k34x1) (endQ [.tmp 2])))))) .normal ⟨e, h⟩) = (
  if b8 = true then
    (
    some ((.int .i64 0), h)
    )
  else
    (
    some ((.int .i64 i1x1), h)
    )
  ) := by kernel_rfl
theorem J34x35xeq (C : Cal) (i1x0 : Int) (i1x1 : Int) (i1x2 : Int) (i1x3 : Int) (i1x4 : Int) (b8 : Bool) (h : Heap) : J34x35 mk0 C i1x0 i1x1 i1x2 i1x3 i1x4 b8 h = (
  if b8 = true then
    (
    some ((.int .i64 0), h)
    )
  else
    (
    some ((.int .i64 i1x1), h)
    )
  ) := join_eqn (seqQ (evalE mk0 C k34x11) (seqQ (evalE mk0 C k34x8) (blockQ 0 (seqQ (evalE mk0 C k34x3) (seqQ (evalE mk0 C k34x1) (endQ [.tmp 2])))))) (.any :: (.box [(.int .i64 i1x0), (.int .i64 i1x1), (.int .i64 i1x2), (.int .i64 i1x3), (.int .i64 i1x4)] :: (rep 6 (.g [] true (.bool b8) :: (rep 11 []))))) h (J34x35xaux mk0 C i1x0 i1x1 i1x2 i1x3 i1x4 b8 h)
theorem J34x34xaux (M : Mk) (C : Cal) (i1x0 : Int) (i1x1 : Int) (i1x2 : Int) (i1x3 : Int) (i1x4 : Int) (b8 : Bool) (h : Heap) : (forceK tk (.any :: (.box [(.int .i64 i1x0), (.int .i64 i1x1), (.int .i64 i1x2), (.int .i64 i1x3), (.int .i64 i1x4)] :: (rep 6 (.g [] true (.bool b8) :: (rep 11 []))))) fun e => (seqQ (evalE M C k34x13) (seqQ (evalE M C k34x11) (seqQ (evalE M C k34x8) (blockQ 0 (seqQ (evalE M C k34x3) (seqQ (evalE M C k34x1) (endQ [.tmp 2]))))))) .normal ⟨e, h⟩) = (
  J34x35 M C i1x0 i1x1 i1x2 i1x3 i1x4 b8 h
  ) := by kernel_rfl
theorem J34x34xeq (C : Cal) (i1x0 : Int) (i1x1 : Int) (i1x2 : Int) (i1x3 : Int) (i1x4 : Int) (b8 : Bool) (h : Heap) : J34x34 mk0 C i1x0 i1x1 i1x2 i1x3 i1x4 b8 h = (
  J34x35 mk0 C i1x0 i1x1 i1x2 i1x3 i1x4 b8 h
  ) := join_eqn (seqQ (evalE mk0 C k34x13) (seqQ (evalE mk0 C k34x11) (seqQ (evalE mk0 C k34x8) (blockQ 0 (seqQ (evalE mk0 C k34x3) (seqQ (evalE mk0 C k34x1) (endQ [.tmp 2]))))))) (.any :: (.box [(.int .i64 i1x0), (.int .i64 i1x1), (.int .i64 i1x2), (.int .i64 i1x3), (.int .i64 i1x4)] :: (rep 6 (.g [] true (.bool b8) :: (rep 11 []))))) h (J34x34xaux mk0 C i1x0 i1x1 i1x2 i1x3 i1x4 b8 h)
theorem J34x33xaux (M : Mk) (C : Cal) (i1x0 : Int) (i1x1 : Int) (i1x2 : Int) (i1x3 : Int) (i1x4 : Int) (b8 : Bool) (h : Heap) : (forceK tk (.any :: (.box [(.int .i64 i1x0), (.int .i64 i1x1), (.int .i64 i1x2), (.int .i64 i1x3), (.int .i64 i1x4)] :: (rep 6 (.g [] true (.bool b8) :: (rep 11 []))))) fun e => (seqQ (evalE M C k34x15) (seqQ (evalE M C k34x13) (seqQ (evalE M C k34x11) (seqQ (evalE M C k34x8) (blockQ 0 (seqQ (evalE M C k34x3) (seqQ (evalE M C k34x1) (endQ [.tmp 2])))))))) .normal ⟨e, h⟩) = (
  J34x34 M C i1x0 i1x1 i1x2 i1x3 i1x4 b8 h
  ) := by kernel_rfl
theorem J34x33xeq (C : Cal) (i1x0 : Int) (i1x1 : Int) (i1x2 : Int) (i1x3 : Int) (i1x4 : Int) (b8 : Bool) (h : Heap) : J34x33 mk0 C i1x0 i1x1 i1x2 i1x3 i1x4 b8 h = (
  J34x34 mk0 C i1x0 i1x1 i1x2 i1x3 i1x4 b8 h
  ) := join_eqn (seqQ (evalE mk0 C k34x15) (seqQ (evalE mk0 C k34x13) (seqQ (evalE mk0 C k34x11) (seqQ (evalE mk0 C k34x8) (blockQ 0 (seqQ (evalE mk0 C k34x3) (seqQ (evalE mk0 C k34x1) (endQ [.tmp 2])))))))) (.any :: (.box [(.int .i64 i1x0), (.int .i64 i1x1), (.int .i64 i1x2), (.int .i64 i1x3), (.int .i64 i1x4)] :: (rep 6 (.g [] true (.bool b8) :: (rep 11 []))))) h (J34x33xaux mk0 C i1x0 i1x1 i1x2 i1x3 i1x4 b8 h)
theorem J34x32xaux (M : Mk) (C : Cal) (i1x0 : Int) (i1x1 : Int) (i1x2 : Int) (i1x3 : Int) (i1x4 : Int) (b8 : Bool) (h : Heap) : (forceK tk (.any :: (.box [(.int .i64 i1x0), (.int .i64 i1x1), (.int .i64 i1x2), (.int .i64 i1x3), (.int .i64 i1x4)] :: (rep 6 (.g [] true (.bool b8) :: (rep 11 []))))) fun e => (seqQ (evalE M C k34x17) (seqQ (evalE M C k34x15) (seqQ (evalE M C k34x13) (seqQ (evalE M C k34x11) (seqQ (evalE M C k34x8) (blockQ 0 (seqQ (evalE M C k34x3) (seqQ (evalE M C k34x1) (endQ [.tmp 2]))))))))) .normal ⟨e, h⟩) = (
  J34x33 M C i1x0 i1x1 i1x2 i1x3 i1x4 b8 h
  ) := by kernel_rfl
theorem J34x32xeq (C : Cal) (i1x0 : Int) (i1x1 : Int) (i1x2 : Int) (i1x3 : Int) (i1x4 : Int) (b8 : Bool) (h : Heap) : J34x32 mk0 C i1x0 i1x1 i1x2 i1x3 i1x4 b8 h = (
  J34x33 mk0 C i1x0 i1x1 i1x2 i1x3 i1x4 b8 h
  ) := join_eqn (seqQ (evalE mk0 C k34x17) (seqQ (evalE mk0 C k34x15) (seqQ (evalE mk0 C k34x13) (seqQ (evalE mk0 C k34x11) (seqQ (evalE mk0 C k34x8) (blockQ 0 (seqQ (evalE mk0 C k34x3) (seqQ (evalE mk0 C k34x1) (endQ [.tmp 2]))))))))) (.any :: (.box [(.int .i64 i1x0), (.int .i64 i1x1), (.int .i64 i1x2), (.int .i64 i1x3), (.int .i64 i1x4)] :: (rep 6 (.g [] true (.bool b8) :: (rep 11 []))))) h (J34x32xaux mk0 C i1x0 i1x1 i1x2 i1x3 i1x4 b8 h)
theorem J34x31xaux (M : Mk) (C : Cal) (i1x0 : Int) (i1x1 : Int) (i1x2 : Int) (i1x3 : Int) (i1x4 : Int) (b8 : Bool) (h : Heap) : (forceK tk (.any :: (.box [(.int .i64 i1x0), (.int .i64 i1x1), (.int .i64 i1x2), (.int .i64 i1x3), (.int .i64 i1x4)] :: (rep 6 (.g [] true (.bool b8) :: (rep 11 []))))) fun e => (seqQ (evalE M C k34x19) (seqQ (evalE M C k34x17) (seqQ (evalE M C k34x15) (seqQ (evalE M C k34x13) (seqQ (evalE M C k34x11) (seqQ (evalE M C k34x8) (blockQ 0 (seqQ (evalE M C k34x3) (seqQ (evalE M C k34x1) (endQ [.tmp 2])))))))))) .normal ⟨e, h⟩) = (
  J34x32 M C i1x0 i1x1 i1x2 i1x3 i1x4 b8 h
  ) := by kernel_rfl
theorem J34x31xeq (C : Cal) (i1x0 : Int) (i1x1 : Int) (i1x2 : Int) (i1x3 : Int) (i1x4 : Int) (b8 : Bool) (h : Heap) : J34x31 mk0 C i1x0 i1x1 i1x2 i1x3 i1x4 b8 h = (
  J34x32 mk0 C i1x0 i1x1 i1x2 i1x3 i1x4 b8 h
  ) := join_eqn (seqQ (evalE mk0 C k34x19) (seqQ (evalE mk0 C k34x17) (seqQ (evalE mk0 C k34x15) (seqQ (evalE mk0 C k34x13) (seqQ (evalE mk0 C k34x11) (seqQ (evalE mk0 C k34x8) (blockQ 0 (seqQ (evalE mk0 C k34x3) (seqQ (evalE mk0 C k34x1) (endQ [.tmp 2])))))))))) (.any :: (.box [(.int .i64 i1x0), (.int .i64 i1x1), (.int .i64 i1x2), (.int .i64 i1x3), (.int .i64 i1x4)] :: (rep 6 (.g [] true (.bool b8) :: (rep 11 []))))) h (J34x31xaux mk0 C i1x0 i1x1 i1x2 i1x3 i1x4 b8 h)
theorem J34x30xaux (M : Mk) (C : Cal) (i1x0 : Int) (i1x1 : Int) (i1x2 : Int) (i1x3 : Int) (i1x4 : Int) (b8 : Bool) (h : Heap) : (forceK tk (.any :: (.box [(.int .i64 i1x0), (.int .i64 i1x1), (.int .i64 i1x2), (.int .i64 i1x3), (.int .i64 i1x4)] :: (rep 6 (.g [] true (.bool b8) :: (rep 11 []))))) fun e => (seqQ (evalE M C k34x21) (seqQ (evalE M C k34x19) (seqQ (evalE M C k34x17) (seqQ (evalE M C k34x15) (seqQ (evalE M C k34x13) (seqQ (evalE M C k34x11) (seqQ (evalE M C k34x8) (blockQ 0 (seqQ (evalE M C k34x3) (seqQ (evalE M C k34x1) (endQ [.tmp 2]))))))))))) .normal ⟨e, h⟩) = (
  J34x31 M C i1x0 i1x1 i1x2 i1x3 i1x4 b8 h
  ) := by kernel_rfl
theorem J34x30xeq (C : Cal) (i1x0 : Int) (i1x1 : Int) (i1x2 : Int) (i1x3 : Int) (i1x4 : Int) (b8 : Bool) (h : Heap) : J34x30 mk0 C i1x0 i1x1 i1x2 i1x3 i1x4 b8 h = (
  J34x31 mk0 C i1x0 i1x1 i1x2 i1x3 i1x4 b8 h
  ) := join_eqn (seqQ (evalE mk0 C k34x21) (seqQ (evalE mk0 C k34x19) (seqQ (evalE mk0 C k34x17) (seqQ (evalE mk0 C k34x15) (seqQ (evalE mk0 C k34x13) (seqQ (evalE mk0 C k34x11) (seqQ (evalE mk0 C k34x8) (blockQ 0 (seqQ (evalE mk0 C k34x3) (seqQ (evalE mk0 C k34x1) (endQ [.tmp 2]))))))))))) (.any :: (.box [(.int .i64 i1x0), (.int .i64 i1x1), (.int .i64 i1x2), (.int .i64 i1x3), (.int .i64 i1x4)] :: (rep 6 (.g [] true (.bool b8) :: (rep 11 []))))) h (J34x30xaux mk0 C i1x0 i1x1 i1x2 i1x3 i1x4 b8 h)
theorem J34x29xaux (M : Mk) (C : Cal) (i1x0 : Int) (i1x1 : Int) (i1x2 : Int) (i1x3 : Int) (i1x4 : Int) (b8 : Bool) (h : Heap) : (forceK tk (.any :: (.box [(.int .i64 i1x0), (.int .i64 i1x1), (.int .i64 i1x2), (.int .i64 i1x3), (.int .i64 i1x4)] :: (rep 6 (.g [] true (.bool b8) :: (rep 11 []))))) fun e => (seqQ (evalE M C k34x23) (seqQ (evalE M C k34x21) (seqQ (evalE M C k34x19) (seqQ (evalE M C k34x17) (seqQ (evalE M C k34x15) (seqQ (evalE M C k34x13) (seqQ (evalE M C k34x11) (seqQ (evalE M C k34x8) (blockQ 0 (seqQ (evalE M C k34x3) (seqQ (evalE M C k34x1) (endQ [.tmp 2])))))))))))) .normal ⟨e, h⟩) = (
  J34x30 M C i1x0 i1x1 i1x2 i1x3 i1x4 b8 h
  ) := by kernel_rfl
theorem J34x29xeq (C : Cal) (i1x0 : Int) (i1x1 : Int) (i1x2 : Int) (i1x3 : Int) (i1x4 : Int) (b8 : Bool) (h : Heap) : J34x29 mk0 C i1x0 i1x1 i1x2 i1x3 i1x4 b8 h = (
  J34x30 mk0 C i1x0 i1x1 i1x2 i1x3 i1x4 b8 h
  ) := join_eqn (seqQ (evalE mk0 C k34x23) (seqQ (evalE mk0 C k34x21) (seqQ (evalE mk0 C k34x19) (seqQ (evalE mk0 C k34x17) (seqQ (evalE mk0 C k34x15) (seqQ (evalE mk0 C k34x13) (seqQ (evalE mk0 C k34x11) (seqQ (evalE mk0 C k34x8) (blockQ 0 (seqQ (evalE mk0 C k34x3) (seqQ (evalE mk0 C k34x1) (endQ [.tmp 2])))))))))))) (.any :: (.box [(.int .i64 i1x0), (.int .i64 i1x1), (.int .i64 i1x2), (.int .i64 i1x3), (.int .i64 i1x4)] :: (rep 6 (.g [] true (.bool b8) :: (rep 11 []))))) h (J34x29xaux mk0 C i1x0 i1x1 i1x2 i1x3 i1x4 b8 h)
theorem J34x28xaux (M : Mk) (C : Cal) (i1x0 : Int) (i1x1 : Int) (i1x2 : Int) (i1x3 : Int) (i1x4 : Int) (b8 : Bool) (h : Heap) : (forceK tk (.any :: (.box [(.int .i64 i1x0), (.int .i64 i1x1), (.int .i64 i1x2), (.int .i64 i1x3), (.int .i64 i1x4)] :: (rep 6 (.g [] true (.bool b8) :: (rep 11 []))))) fun e => (seqQ (evalE M C k34x25) (seqQ (evalE M C k34x23) (seqQ (evalE M C k34x21) (seqQ (evalE M C k34x19) (seqQ (evalE M C k34x17) (seqQ (evalE M C k34x15) (seqQ (evalE M C k34x13) (seqQ (evalE M C k34x11) (seqQ (evalE M C k34x8) (blockQ 0 (seqQ (evalE M C k34x3) (seqQ (evalE M C k34x1) (endQ [.tmp 2]))))))))))))) .normal ⟨e, h⟩) = (
  J34x29 M C i1x0 i1x1 i1x2 i1x3 i1x4 b8 h
  ) := by kernel_rfl
theorem J34x28xeq (C : Cal) (i1x0 : Int) (i1x1 : Int) (i1x2 : Int) (i1x3 : Int) (i1x4 : Int) (b8 : Bool) (h : Heap) : J34x28 mk0 C i1x0 i1x1 i1x2 i1x3 i1x4 b8 h = (
  J34x29 mk0 C i1x0 i1x1 i1x2 i1x3 i1x4 b8 h
  ) := join_eqn (seqQ (evalE mk0 C k34x25) (seqQ (evalE mk0 C k34x23) (seqQ (evalE mk0 C k34x21) (seqQ (evalE mk0 C k34x19) (seqQ (evalE mk0 C k34x17) (seqQ (evalE mk0 C k34x15) (seqQ (evalE mk0 C k34x13) (seqQ (evalE mk0 C k34x11) (seqQ (evalE mk0 C k34x8) (blockQ 0 (seqQ (evalE mk0 C k34x3) (seqQ (evalE mk0 C k34x1) (endQ [.tmp 2]))))))))))))) (.any :: (.box [(.int .i64 i1x0), (.int .i64 i1x1), (.int .i64 i1x2), (.int .i64 i1x3), (.int .i64 i1x4)] :: (rep 6 (.g [] true (.bool b8) :: (rep 11 []))))) h (J34x28xaux mk0 C i1x0 i1x1 i1x2 i1x3 i1x4 b8 h)
def k44x6 : AC := .join 24
def k44x5 : AC := .seq (.cond (.tmp 4)
   (.skip)
   (.ops false [
      ⟨(some 6), .bin .other .eql (.tmp 3) (.c (.int .i64 12)), none, []⟩,
      ⟨(some 4), .move (.tmp 6), none, []⟩])) k44x6
def k44x10 : AC := .ret
def k44x9 : AC := .seq (.mask 4) k44x10
def k44x13 : AC := .join 136
def k44x12 : AC := .seq (.cond (.tmp 7)
   (.skip)
   (.ops false [
      ⟨(some 9), .bin .other .eql (.tmp 3) (.c (.int .i64 15)), none, []⟩,
      ⟨(some 7), .move (.tmp 9), none, []⟩])) k44x13
def k44x17 : AC := .ret
def k44x16 : AC := .seq (.mask 4) k44x17
def k44x20 : AC := .join 1024
def k44x19 : AC := .seq (.cond (.tmp 10)
   (.skip)
   (.ops false [
      ⟨(some 12), .bin .other .eql (.tmp 3) (.c (.int .i64 5)), none, []⟩,
      ⟨(some 10), .move (.tmp 12), none, []⟩])) k44x20
def k44x24 : AC := .ret
def k44x23 : AC := .seq (.mask 4) k44x24
def k44x22 : AC := .mask 0
def k44x18 : AC := .seq (.cond (.tmp 10)
   (.seq (.ops false [
      ⟨(some 2), .move (.c (.int .i64 8)), none, []⟩]) k44x23)
   (.skip)) k44x22
def k44x15 : AC := .mask 0
def k44x11 : AC := .seq (.cond (.tmp 7)
   (.seq (.ops false [
      ⟨(some 2), .move (.c (.int .i64 4)), none, []⟩]) k44x16)
   (.seq (.seq (.ops false [
      ⟨(some 11), .bin .other .eql (.tmp 3) (.c (.int .i64 4)), none, []⟩,
      ⟨(some 10), .move (.tmp 11), none, []⟩]) k44x19) k44x18)) k44x15
def k44x8 : AC := .mask 0
def k44x4 : AC := .seq (.cond (.tmp 4)
   (.seq (.ops false [
      ⟨(some 2), .move (.c (.int .i64 3)), none, []⟩]) k44x9)
   (.seq (.seq (.ops false [
      ⟨(some 8), .bin .other .eql (.tmp 3) (.c (.int .i64 14)), none, []⟩,
      ⟨(some 7), .move (.tmp 8), none, []⟩]) k44x12) k44x11)) k44x8
def k44x3 : AC := .mask 0
def k44x2 : AC := .seq (.block 0 (.seq (.seq (.ops false [
     ⟨(some 5), .bin .other .eql (.tmp 3) (.c (.int .i64 3)), none, []⟩,
     ⟨(some 4), .move (.tmp 5), none, []⟩]) k44x5) k44x4)) k44x3
def k44x26 : AC := .ret
def k44x25 : AC := .seq (.mask 4) k44x26
def k44x1 : AC := .seq (.ops false [
    ⟨(some 2), .move (.c (.int .i64 1)), none, []⟩]) k44x25
def k44x0 : AC := .seq (.seq (.ops false [
    ⟨(some 3), .move (.tmp 0), none, []⟩]) k44x2) k44x1
/-- provenance/timing.Latency -/
def c44 : AFn := ⟨13, [.tmp 2],
  .seq (.ops false [
    ⟨(some 2), .move (.c (.int .i64 0)), none, []⟩]) k44x0⟩
noncomputable def J44x7 (M : Mk) (C : Cal) (i3 : Int) (b4 : Bool) (h : Heap) : Res := M (AV × Heap) (seqQ (evalE M C k44x4) (blockQ 0 (seqQ (evalE M C k44x3) (seqQ (evalE M C k44x1) (endQ [.tmp 2]))))) (rep 3 (.g [] true (.int .i64 i3) :: (.g [] true (.bool b4) :: (rep 8 [])))) h
noncomputable def J44x14 (M : Mk) (C : Cal) (i3 : Int) (b7 : Bool) (h : Heap) : Res := M (AV × Heap) (seqQ (evalE M C k44x11) (seqQ (evalE M C k44x8) (blockQ 0 (seqQ (evalE M C k44x3) (seqQ (evalE M C k44x1) (endQ [.tmp 2])))))) (rep 3 (.g [] true (.int .i64 i3) :: (rep 3 (.g [] true (.bool b7) :: (rep 5 []))))) h
noncomputable def J44x21 (M : Mk) (C : Cal) (b10 : Bool) (h : Heap) : Res := M (AV × Heap) (seqQ (evalE M C k44x18) (seqQ (evalE M C k44x15) (seqQ (evalE M C k44x8) (blockQ 0 (seqQ (evalE M C k44x3) (seqQ (evalE M C k44x1) (endQ [.tmp 2]))))))) (rep 10 (.g [] true (.bool b10) :: (.any :: .any :: []))) h
theorem r44 (i0 : Int) (h : Heap) : runE M C c44 [(.int .i64 i0)] h = (
  letK ((decide ((i0 : Int) = 3)) : Bool) fun b5 =>
  if b5 = true then
    (
    J44x7 M C i0 b5 h
    )
  else
    (
    letK ((decide ((i0 : Int) = 12)) : Bool) fun b6 =>
    J44x7 M C i0 b6 h
    )
  ) := by kernel_rfl
theorem cf44 : cFn Try.prog 44 = some c44 := by kernel_rfl
theorem e44 (i0 : Int) (h : Heap) : E 44 [(.int .i64 i0)] h = (
  letK ((decide ((i0 : Int) = 3)) : Bool) fun b5 =>
  if b5 = true then
    (
    J44x7 mk0 E i0 b5 h
    )
  else
    (
    letK ((decide ((i0 : Int) = 12)) : Bool) fun b6 =>
    J44x7 mk0 E i0 b6 h
    )
  ) := (EV_eq (P := Try.prog) (T := T0) rfl cf44 [(.int .i64 i0)] h).trans (r44 mk0 E i0 h)
theorem J44x7xaux (M : Mk) (C : Cal) (i3 : Int) (b4 : Bool) (h : Heap) : (forceK tk (rep 3 (.g [] true (.int .i64 i3) :: (.g [] true (.bool b4) :: (rep 8 [])))) fun e => (seqQ (evalE M C k44x4) (blockQ 0 (seqQ (evalE M C k44x3) (seqQ (evalE M C k44x1) (endQ [.tmp 2]))))) .normal ⟨e, h⟩) = (
  if b4 = true then
    (
    some ((.int .i64 3), h)
    )
  else
    (
    letK ((decide ((i3 : Int) = 14)) : Bool) fun b8 =>
    if b8 = true then
      (
      J44x14 M C i3 b8 h
      )
    else
      (
      letK ((decide ((i3 : Int) = 15)) : Bool) fun b9 =>
      J44x14 M C i3 b9 h
      )
    )
  ) := by kernel_rfl
theorem J44x7xeq (C : Cal) (i3 : Int) (b4 : Bool) (h : Heap) : J44x7 mk0 C i3 b4 h = (
  if b4 = true then
    (
    some ((.int .i64 3), h)
    )
  else
    (
    letK ((decide ((i3 : Int) = 14)) : Bool) fun b8 =>
    if b8 = true then
      (
      J44x14 mk0 C i3 b8 h
      )
    else
      (
      letK ((decide ((i3 : Int) = 15)) : Bool) fun b9 =>
      J44x14 mk0 C i3 b9 h
      )
    )
  ) := join_eqn (seqQ (evalE mk0 C k44x4) (blockQ 0 (seqQ (evalE mk0 C k44x3) (seqQ (evalE mk0 C k44x1) (endQ [.tmp 2]))))) (rep 3 (.g [] true (.int .i64 i3) :: (.g [] true (.bool b4) :: (rep 8 [])))) h (J44x7xaux mk0 C i3 b4 h)
theorem J44x14xaux (M : Mk) (C : Cal) (i3 : Int) (b7 : Bool) (h : Heap) : (forceK tk (rep 3 (.g [] true (.int .i64 i3) :: (rep 3 (.g [] true (.bool b7) :: (rep 5 []))))) fun e => (seqQ (evalE M C k44x11) (seqQ (evalE M C k44x8) (blockQ 0 (seqQ (evalE M C k44x3) (seqQ (evalE M C k44x1) (endQ [.tmp 2])))))) .normal ⟨e, h⟩) = (
  if b7 = true then
    (
    some ((.int .i64 4), h)
    )
  else
    (
    letK ((decide ((i3 : Int) = 4)) : Bool) fun b11 =>
    if b11 = true then
      (
      J44x21 M C b11 h
      )
    else
      (
      letK ((decide ((i3 : Int) = 5)) : Bool) fun b12 =>
      J44x21 M C b12 h
      )
    )
  ) := by kernel_rfl
theorem J44x14xeq (C : Cal) (i3 : Int) (b7 : Bool) (h : Heap) : J44x14 mk0 C i3 b7 h = (
  if b7 = true then
    (
    some ((.int .i64 4), h)
    )
  else
    (
    letK ((decide ((i3 : Int) = 4)) : Bool) fun b11 =>
    if b11 = true then
      (
      J44x21 mk0 C b11 h
      )
    else
      (
      letK ((decide ((i3 : Int) = 5)) : Bool) fun b12 =>
      J44x21 mk0 C b12 h
      )
    )
  ) := join_eqn (seqQ (evalE mk0 C k44x11) (seqQ (evalE mk0 C k44x8) (blockQ 0 (seqQ (evalE mk0 C k44x3) (seqQ (evalE mk0 C k44x1) (endQ [.tmp 2])))))) (rep 3 (.g [] true (.int .i64 i3) :: (rep 3 (.g [] true (.bool b7) :: (rep 5 []))))) h (J44x14xaux mk0 C i3 b7 h)
theorem J44x21xaux (M : Mk) (C : Cal) (b10 : Bool) (h : Heap) : (forceK tk (rep 10 (.g [] true (.bool b10) :: (.any :: .any :: []))) fun e => (seqQ (evalE M C k44x18) (seqQ (evalE M C k44x15) (seqQ (evalE M C k44x8) (blockQ 0 (seqQ (evalE M C k44x3) (seqQ (evalE M C k44x1) (endQ [.tmp 2]))))))) .normal ⟨e, h⟩) = (
  if b10 = true then
    (
    some ((.int .i64 8), h)
    )
  else
    (
    some ((.int .i64 1), h)
    )
  ) := by kernel_rfl
theorem J44x21xeq (C : Cal) (b10 : Bool) (h : Heap) : J44x21 mk0 C b10 h = (
  if b10 = true then
    (
    some ((.int .i64 8), h)
    )
  else
    (
    some ((.int .i64 1), h)
    )
  ) := join_eqn (seqQ (evalE mk0 C k44x18) (seqQ (evalE mk0 C k44x15) (seqQ (evalE mk0 C k44x8) (blockQ 0 (seqQ (evalE mk0 C k44x3) (seqQ (evalE mk0 C k44x1) (endQ [.tmp 2]))))))) (rep 10 (.g [] true (.bool b10) :: (.any :: .any :: []))) h (J44x21xaux mk0 C b10 h)
def k46x2 : AC := .ret
def k46x1 : AC := .seq (.mask 4) k46x2
def k46x0 : AC := .seq (.ops true [
    ⟨(some 3), .move (.tmp 0), none, []⟩,
    ⟨(some 4), .bin .other .eql (.tmp 3) (.c (.int .i64 4)), none, []⟩,
    ⟨(some 5), .move (.tmp 4), none, []⟩,
    ⟨(some 6), .move (.tmp 0), (some (5, false)), []⟩,
    ⟨(some 7), .bin .other .eql (.tmp 6) (.c (.int .i64 5)), (some (5, false)), []⟩,
    ⟨(some 8), .pick (.tmp 5) (.c (.bool true)) (.tmp 7), none, []⟩,
    ⟨(some 2), .move (.tmp 8), none, []⟩]) k46x1
/-- provenance/timing.divides -/
def c46 : AFn := ⟨9, [.tmp 2],
  .seq (.ops false [
    ⟨(some 2), .move (.c (.bool false)), none, []⟩]) k46x0⟩
theorem r46 (i0 : Int) (h : Heap) : runE M C c46 [(.int .i64 i0)] h = (
  letK ((decide ((i0 : Int) = 4)) : Bool) fun b4 =>
  letK ((decide ((i0 : Int) = 5)) : Bool) fun b7 =>
  letK ((if b4 = true then true else b7) : Bool) fun b8 =>
  some ((.bool b8), h)
  ) := by kernel_rfl
theorem cf46 : cFn Try.prog 46 = some c46 := by kernel_rfl
theorem e46 (i0 : Int) (h : Heap) : E 46 [(.int .i64 i0)] h = (
  letK ((decide ((i0 : Int) = 4)) : Bool) fun b4 =>
  letK ((decide ((i0 : Int) = 5)) : Bool) fun b7 =>
  letK ((if b4 = true then true else b7) : Bool) fun b8 =>
  some ((.bool b8), h)
  ) := (EV_eq (P := Try.prog) (T := T0) rfl cf46 [(.int .i64 i0)] h).trans (r46 mk0 E i0 h)
def k51x6 : AC := .exit 0
def k51x5 : AC := .mask 226
def k51x11 : AC := .join 226
def k51x10 : AC := .seq (.cond (.tmp 12)
   (.ops false [
      ⟨(some 13), .load (.cell .sl) (.tmp 1), none, []⟩,
      ⟨(some 14), .move (.tmp 4), none, []⟩,
      ⟨(some 15), .buildSl [(.int .i64 0)] 1 [(0, (.tmp 14))], none, []⟩,
      ⟨(some 16), .append [(.int .i64 0)] 1 8 (.tmp 13) (.tmp 15), none, []⟩,
      ⟨none, .store 1 (.tmp 1) (.tmp 16), none, []⟩])
   (.skip)) k51x11
def k51x9 : AC := .seq (.ops false [
    ⟨(some 11), .move (.tmp 4), none, []⟩,
    ⟨(some 12), .bin .other .neq (.tmp 11) (.c (.int .i64 0)), none, []⟩]) k51x10
def k51x8 : AC := .mask 226
def k51x7 : AC := .ops false [
    ⟨(some 17), .bin .other .add (.tmp 7) (.c (.int .i64 1)), none, []⟩,
    ⟨(some 7), .move (.tmp 17), none, []⟩]
def k51x4 : AC := .seq (.seq (.block 1 (.seq (.ops false [
     ⟨(some 9), .indexAddr 1 (.tmp 5) (.tmp 7), none, []⟩,
     ⟨(some 10), .load (.cell (.int .i64)) (.tmp 9), none, []⟩,
     ⟨(some 4), .move (.tmp 10), none, []⟩]) k51x9)) k51x8) k51x7
def k51x3 : AC := .seq (.seq (.cond (.tmp 8)
   (.skip)
   (.seq (.mask 0) k51x6)) k51x5) k51x4
def k51x2 : AC := .seq (.ops false [
    ⟨(some 8), .bin .other .lss (.tmp 7) (.tmp 6), none, []⟩]) k51x3
def k51x1 : AC := .mask 0
def k51x0 : AC := .seq (.block 0 (.loop 226 0 k51x2)) k51x1
/-- provenance/timing.Reads$1 -/
def c51 : AFn := ⟨18, [],
  .seq (.ops false [
    ⟨(some 5), .move (.tmp 0), none, []⟩,
    ⟨(some 6), .lenSl (.tmp 5), none, []⟩,
    ⟨(some 7), .move (.c (.int .i64 0)), none, []⟩]) k51x0⟩
def S51xe0 (h : Heap) : St := ⟨(rep 18 []), h⟩
noncomputable def Q51x2 (M : Mk) (C : Cal) : Kont (AV × Heap) := (blockQ 0 (seqQ (evalE M C k51x1) (endQ [])))
noncomputable def L51x2 (p1 : Option Ad) (s5 : SA) (n5 : Nat) (i6 : Int) (i7 : Int) (h : Heap) (Q : Kont R) : Option R := loopE (evalE M C k51x2) 226 0 ⟨(.any :: (.g [] true (.ptr p1) :: (rep 3 (.g [] true (.sl s5 n5) :: (.g [] true (.int .i64 i6) :: (.g [] true (.int .i64 i7) :: (rep 10 []))))))), h⟩ Q
noncomputable def J51x12 (M : Mk) (C : Cal) (p1 : Option Ad) (s5 : SA) (n5 : Nat) (i6 : Int) (i7 : Int) (h : Heap) (Q : Kont R) : Option R := M R (blockQ 1 (seqQ (evalE M C k51x8) (seqQ (evalE M C k51x7) (roundQ M C k51x2 226 0 Q)))) (.any :: (.g [] true (.ptr p1) :: (rep 3 (.g [] true (.sl s5 n5) :: (.g [] true (.int .i64 i6) :: (.g [] true (.int .i64 i7) :: (rep 10 []))))))) h
theorem r51 (s0 : SA) (n0 : Nat) (p1 : Option Ad) (h : Heap) : runE M C c51 [(.sl s0 n0), (.ptr p1)] h = (
  L51x2 M C p1 s0 n0 ((n0 : Nat) : Int) 0 h (Q51x2 M C)
  ) := by kernel_rfl
theorem cf51 : cFn Try.prog 51 = some c51 := by kernel_rfl
theorem e51 (s0 : SA) (n0 : Nat) (p1 : Option Ad) (h : Heap) : E 51 [(.sl s0 n0), (.ptr p1)] h = (
  L51x2 mk0 E p1 s0 n0 ((n0 : Nat) : Int) 0 h (Q51x2 mk0 E)
  ) := (EV_eq (P := Try.prog) (T := T0) rfl cf51 [(.sl s0 n0), (.ptr p1)] h).trans (r51 mk0 E s0 n0 p1 h)
theorem L51x2xaux (p1 : Option Ad) (s5 : SA) (n5 : Nat) (i6 : Int) (i7 : Int) (h : Heap) (Q : Kont R) : (restrF 226 ⟨(.any :: (.g [] true (.ptr p1) :: (rep 3 (.g [] true (.sl s5 n5) :: (.g [] true (.int .i64 i6) :: (.g [] true (.int .i64 i7) :: (rep 10 []))))))), h⟩ fun σ => evalE M C k51x2 σ (roundQ M C k51x2 226 0 Q)) = (
  letK ((decide ((i7 : Int) < i6)) : Bool) fun b8 =>
  if b8 = true then
    (
    chk (true = true → (0 : Int) ≤ i7 ∧ (i7 : Int) < ((n5 : Nat) : Int)) <|
    atP (adP s5) true fun a9 =>
    gI .i64 (ld1 h (Ad.add a9 (Int.toNat i7 * 1))) true fun i10 =>
    letK ((!decide ((i10 : Int) = 0)) : Bool) fun b12 =>
    if b12 = true then
      (
      atP p1 true fun a13 =>
      gL (ld1 h a13) true fun s13 n13 =>
      newK h (.cells [(.int .i64 i10)] (.grow 1) 0) fun h_2 =>
      (ldSl h_2 (.pos ⟨List.length h, 0, 0⟩) (1 * 1)).bind fun y16 =>
      (apnd h_2 (.sl s13 n13) 1 8 y16 1).bind fun r16 =>
      gL (some r16.1) true fun s16 n16 =>
      atP p1 true fun ax =>
      (st1 r16.2 ax (.sl s16 n16)).bind fun h_3 =>
      J51x12 M C p1 s5 n5 i6 i7 h_3 Q
      )
    else
      (
      J51x12 M C p1 s5 n5 i6 i7 h Q
      )
    )
  else
    (
    Q (.exit 0) (S51xe0 h)
    )
  ) := by kernel_rfl
theorem L51x2xeq (p1 : Option Ad) (s5 : SA) (n5 : Nat) (i6 : Int) (i7 : Int) (h : Heap) (Q : Kont R) : L51x2 mk0 C p1 s5 n5 i6 i7 h Q = (
  letK ((decide ((i7 : Int) < i6)) : Bool) fun b8 =>
  if b8 = true then
    (
    chk (true = true → (0 : Int) ≤ i7 ∧ (i7 : Int) < ((n5 : Nat) : Int)) <|
    atP (adP s5) true fun a9 =>
    gI .i64 (ld1 h (Ad.add a9 (Int.toNat i7 * 1))) true fun i10 =>
    letK ((!decide ((i10 : Int) = 0)) : Bool) fun b12 =>
    if b12 = true then
      (
      atP p1 true fun a13 =>
      gL (ld1 h a13) true fun s13 n13 =>
      newK h (.cells [(.int .i64 i10)] (.grow 1) 0) fun h_2 =>
      (ldSl h_2 (.pos ⟨List.length h, 0, 0⟩) (1 * 1)).bind fun y16 =>
      (apnd h_2 (.sl s13 n13) 1 8 y16 1).bind fun r16 =>
      gL (some r16.1) true fun s16 n16 =>
      atP p1 true fun ax =>
      (st1 r16.2 ax (.sl s16 n16)).bind fun h_3 =>
      J51x12 mk0 C p1 s5 n5 i6 i7 h_3 Q
      )
    else
      (
      J51x12 mk0 C p1 s5 n5 i6 i7 h Q
      )
    )
  else
    (
    Q (.exit 0) (S51xe0 h)
    )
  ) := loop_eqn C k51x2 226 0 (.any :: (.g [] true (.ptr p1) :: (rep 3 (.g [] true (.sl s5 n5) :: (.g [] true (.int .i64 i6) :: (.g [] true (.int .i64 i7) :: (rep 10 []))))))) h Q (by kernel_rfl) (L51x2xaux mk0 C p1 s5 n5 i6 i7 h Q)
theorem J51x12xaux (M : Mk) (C : Cal) (p1 : Option Ad) (s5 : SA) (n5 : Nat) (i6 : Int) (i7 : Int) (h : Heap) (Q : Kont R) : (forceK tk (.any :: (.g [] true (.ptr p1) :: (rep 3 (.g [] true (.sl s5 n5) :: (.g [] true (.int .i64 i6) :: (.g [] true (.int .i64 i7) :: (rep 10 []))))))) fun e => (blockQ 1 (seqQ (evalE M C k51x8) (seqQ (evalE M C k51x7) (roundQ M C k51x2 226 0 Q)))) .normal ⟨e, h⟩) = (
  letK ((IntKind.wrap .i64 (i7 + 1)) : Int) fun i17 =>
  L51x2 M C p1 s5 n5 i6 i17 h Q
  ) := by kernel_rfl
theorem J51x12xeq (C : Cal) (p1 : Option Ad) (s5 : SA) (n5 : Nat) (i6 : Int) (i7 : Int) (h : Heap) (Q : Kont R) : J51x12 mk0 C p1 s5 n5 i6 i7 h Q = (
  letK ((IntKind.wrap .i64 (i7 + 1)) : Int) fun i17 =>
  L51x2 mk0 C p1 s5 n5 i6 i17 h Q
  ) := join_eqn (blockQ 1 (seqQ (evalE mk0 C k51x8) (seqQ (evalE mk0 C k51x7) (roundQ mk0 C k51x2 226 0 Q)))) (.any :: (.g [] true (.ptr p1) :: (rep 3 (.g [] true (.sl s5 n5) :: (.g [] true (.int .i64 i6) :: (.g [] true (.int .i64 i7) :: (rep 10 []))))))) h (J51x12xaux mk0 C p1 s5 n5 i6 i7 h Q)
theorem X51x2xe0 (M : Mk) (C : Cal) (h : Heap) : Q51x2 M C (.exit 0) (S51xe0 h) = (
  some (.tup [], h)
  ) := by kernel_rfl
def k35x32 : AC := .join 262298
def k35x31 : AC := .seq (.cond (.tmp 18)
   (.skip)
   (.ops false [
      ⟨(some 30), .bin .other .eql (.tmp 7) (.c (.int .i64 18)), none, []⟩,
      ⟨(some 18), .move (.tmp 30), none, []⟩])) k35x32
def k35x30 : AC := .join 262298
def k35x29 : AC := .seq (.cond (.tmp 18)
   (.skip)
   (.seq (.ops false [
      ⟨(some 29), .bin .other .eql (.tmp 7) (.c (.int .i64 17)), none, []⟩,
      ⟨(some 18), .move (.tmp 29), none, []⟩]) k35x31)) k35x30
def k35x28 : AC := .join 262298
def k35x27 : AC := .seq (.cond (.tmp 18)
   (.skip)
   (.seq (.ops false [
      ⟨(some 28), .bin .other .eql (.tmp 7) (.c (.int .i64 16)), none, []⟩,
      ⟨(some 18), .move (.tmp 28), none, []⟩]) k35x29)) k35x28
def k35x26 : AC := .join 262298
def k35x25 : AC := .seq (.cond (.tmp 18)
   (.skip)
   (.seq (.ops false [
      ⟨(some 27), .bin .other .eql (.tmp 7) (.c (.int .i64 15)), none, []⟩,
      ⟨(some 18), .move (.tmp 27), none, []⟩]) k35x27)) k35x26
def k35x24 : AC := .join 262298
def k35x23 : AC := .seq (.cond (.tmp 18)
   (.skip)
   (.seq (.ops false [
      ⟨(some 26), .bin .other .eql (.tmp 7) (.c (.int .i64 13)), none, []⟩,
      ⟨(some 18), .move (.tmp 26), none, []⟩]) k35x25)) k35x24
def k35x22 : AC := .join 262298
def k35x21 : AC := .seq (.cond (.tmp 18)
   (.skip)
   (.seq (.ops false [
      ⟨(some 25), .bin .other .eql (.tmp 7) (.c (.int .i64 7)), none, []⟩,
      ⟨(some 18), .move (.tmp 25), none, []⟩]) k35x23)) k35x22
def k35x20 : AC := .join 262298
def k35x19 : AC := .seq (.cond (.tmp 18)
   (.skip)
   (.seq (.ops false [
      ⟨(some 24), .bin .other .eql (.tmp 7) (.c (.int .i64 6)), none, []⟩,
      ⟨(some 18), .move (.tmp 24), none, []⟩]) k35x21)) k35x20
def k35x18 : AC := .join 262298
def k35x17 : AC := .seq (.cond (.tmp 18)
   (.skip)
   (.seq (.ops false [
      ⟨(some 23), .bin .other .eql (.tmp 7) (.c (.int .i64 5)), none, []⟩,
      ⟨(some 18), .move (.tmp 23), none, []⟩]) k35x19)) k35x18
def k35x16 : AC := .join 262298
def k35x15 : AC := .seq (.cond (.tmp 18)
   (.skip)
   (.seq (.ops false [
      ⟨(some 22), .bin .other .eql (.tmp 7) (.c (.int .i64 4)), none, []⟩,
      ⟨(some 18), .move (.tmp 22), none, []⟩]) k35x17)) k35x16
def k35x14 : AC := .join 262298
def k35x13 : AC := .seq (.cond (.tmp 18)
   (.skip)
   (.seq (.ops false [
      ⟨(some 21), .bin .other .eql (.tmp 7) (.c (.int .i64 3)), none, []⟩,
      ⟨(some 18), .move (.tmp 21), none, []⟩]) k35x15)) k35x14
def k35x12 : AC := .join 262298
def k35x11 : AC := .seq (.cond (.tmp 18)
   (.skip)
   (.seq (.ops false [
      ⟨(some 20), .bin .other .eql (.tmp 7) (.c (.int .i64 2)), none, []⟩,
      ⟨(some 18), .move (.tmp 20), none, []⟩]) k35x13)) k35x12
def k35x55 : AC := .join 274877907098
def k35x54 : AC := .seq (.cond (.tmp 38)
   (.skip)
   (.ops false [
      ⟨(some 44), .bin .other .eql (.tmp 7) (.c (.int .i64 23)), none, []⟩,
      ⟨(some 38), .move (.tmp 44), none, []⟩])) k35x55
def k35x53 : AC := .join 274877907098
def k35x52 : AC := .seq (.cond (.tmp 38)
   (.skip)
   (.seq (.ops false [
      ⟨(some 43), .bin .other .eql (.tmp 7) (.c (.int .i64 21)), none, []⟩,
      ⟨(some 38), .move (.tmp 43), none, []⟩]) k35x54)) k35x53
def k35x51 : AC := .join 274877907098
def k35x50 : AC := .seq (.cond (.tmp 38)
   (.skip)
   (.seq (.ops false [
      ⟨(some 42), .bin .other .eql (.tmp 7) (.c (.int .i64 12)), none, []⟩,
      ⟨(some 38), .move (.tmp 42), none, []⟩]) k35x52)) k35x51
def k35x49 : AC := .join 274877907098
def k35x48 : AC := .seq (.cond (.tmp 38)
   (.skip)
   (.seq (.ops false [
      ⟨(some 41), .bin .other .eql (.tmp 7) (.c (.int .i64 10)), none, []⟩,
      ⟨(some 38), .move (.tmp 41), none, []⟩]) k35x50)) k35x49
def k35x47 : AC := .join 274877907098
def k35x46 : AC := .seq (.cond (.tmp 38)
   (.skip)
   (.seq (.ops false [
      ⟨(some 40), .bin .other .eql (.tmp 7) (.c (.int .i64 9)), none, []⟩,
      ⟨(some 38), .move (.tmp 40), none, []⟩]) k35x48)) k35x47
def k35x63 : AC := .join 8
def k35x62 : AC := .seq (.cond (.tmp 50)
   (.ops false [
      ⟨(some 52), .move (.tmp 4), none, []⟩,
      ⟨(some 53), .fieldAddr 3 (.tmp 1), none, []⟩,
      ⟨(some 54), .load (.cell (.int .i64)) (.tmp 53), none, []⟩,
      ⟨(some 55), .buildSl [(.int .i64 0)] 1 [(0, (.tmp 54))], none, []⟩,
      ⟨(some 56), .callV (.tmp 52) [(.tmp 55)] [] .opq, none, []⟩])
   (.skip)) k35x63
def k35x61 : AC := .join 8
def k35x45 : AC := .seq (.cond (.tmp 38)
   (.ops false [
      ⟨(some 45), .move (.tmp 4), none, []⟩,
      ⟨(some 46), .fieldAddr 2 (.tmp 1), none, []⟩,
      ⟨(some 47), .load (.cell (.int .i64)) (.tmp 46), none, []⟩,
      ⟨(some 48), .buildSl [(.int .i64 0)] 1 [(0, (.tmp 47))], none, []⟩,
      ⟨(some 49), .callV (.tmp 45) [(.tmp 48)] [] .opq, none, []⟩])
   (.seq (.ops false [
      ⟨(some 51), .bin .other .eql (.tmp 7) (.c (.int .i64 14)), none, []⟩,
      ⟨(some 50), .move (.tmp 51), none, []⟩]) k35x62)) k35x61
def k35x44 : AC := .join 8
def k35x10 : AC := .seq (.cond (.tmp 18)
   (.ops false [
      ⟨(some 31), .move (.tmp 4), none, []⟩,
      ⟨(some 32), .fieldAddr 2 (.tmp 1), none, []⟩,
      ⟨(some 33), .load (.cell (.int .i64)) (.tmp 32), none, []⟩,
      ⟨(some 34), .fieldAddr 3 (.tmp 1), none, []⟩,
      ⟨(some 35), .load (.cell (.int .i64)) (.tmp 34), none, []⟩,
      ⟨(some 36), .buildSl [(.int .i64 0), (.int .i64 0)] 1 [(0, (.tmp 33)), (1, (.tmp 35))], none, []⟩,
      ⟨(some 37), .callV (.tmp 31) [(.tmp 36)] [] .opq, none, []⟩])
   (.seq (.seq (.ops false [
      ⟨(some 39), .bin .other .eql (.tmp 7) (.c (.int .i64 8)), none, []⟩,
      ⟨(some 38), .move (.tmp 39), none, []⟩]) k35x46) k35x45)) k35x44
def k35x9 : AC := .join 8
def k35x8 : AC := .seq (.cond (.tmp 13)
   (.ops false [
      ⟨(some 15), .move (.tmp 4), none, []⟩,
      ⟨(some 16), .buildSl [(.int .i64 0)] 1 [(0, (.c (.int .i64 15)))], none, []⟩,
      ⟨(some 17), .callV (.tmp 15) [(.tmp 16)] [] .opq, none, []⟩])
   (.seq (.seq (.ops false [
      ⟨(some 19), .bin .other .eql (.tmp 7) (.c (.int .i64 1)), none, []⟩,
      ⟨(some 18), .move (.tmp 19), none, []⟩]) k35x11) k35x10)) k35x9
def k35x7 : AC := .join 8
def k35x6 : AC := .seq (.cond (.tmp 8)
   (.ops false [
      ⟨(some 10), .move (.tmp 4), none, []⟩,
      ⟨(some 11), .buildSl [(.int .i64 0)] 1 [(0, (.c (.int .i64 1)))], none, []⟩,
      ⟨(some 12), .callV (.tmp 10) [(.tmp 11)] [] .opq, none, []⟩])
   (.seq (.ops false [
      ⟨(some 14), .bin .other .eql (.tmp 7) (.c (.int .i64 22)), none, []⟩,
      ⟨(some 13), .move (.tmp 14), none, []⟩]) k35x8)) k35x7
def k35x5 : AC := .mask 8
def k35x4 : AC := .seq (.block 0 (.seq (.ops false [
     ⟨(some 9), .bin .other .eql (.tmp 7) (.c (.int .i64 0)), none, []⟩,
     ⟨(some 8), .move (.tmp 9), none, []⟩]) k35x6)) k35x5
def k35x70 : AC := .ret
def k35x69 : AC := .seq (.mask 4) k35x70
def k35x3 : AC := .seq (.ops false [
    ⟨(some 57), .load (.cell .sl) (.tmp 3), none, []⟩,
    ⟨(some 2), .move (.tmp 57), none, []⟩]) k35x69
def k35x2 : AC := .seq (.seq (.ops false [
    ⟨(some 6), .fieldAddr 0 (.tmp 1), none, []⟩,
    ⟨(some 7), .load (.cell (.int .i64)) (.tmp 6), none, []⟩]) k35x4) k35x3
def k35x1 : AC := .seq (.ops false [
    ⟨(some 5), .makeFn 51 [] [(.tmp 3)], none, []⟩,
    ⟨(some 4), .move (.tmp 5), none, []⟩]) k35x2
def k35x0 : AC := .seq (.ops false [
    ⟨(some 3), .allocH [(.sl .nil 0)], none, []⟩]) k35x1
/-- provenance/timing.Reads -/
def c35 : AFn := ⟨58, [.tmp 2],
  .seq (.ops false [
    ⟨(some 1), .boxL (.tmp 0), none, []⟩,
    ⟨(some 2), .move (.c (.sl .nil 0)), none, []⟩]) k35x0⟩
noncomputable def J35x68 (M : Mk) (C : Cal) (p3 : Option Ad) (h : Heap) : Res := M (AV × Heap) (blockQ 0 (seqQ (evalE M C k35x5) (seqQ (evalE M C k35x3) (endQ [.tmp 2])))) (rep 3 (.g [] true (.ptr p3) :: (rep 54 []))) h
noncomputable def J35x67 (M : Mk) (C : Cal) (p3 : Option Ad) (h : Heap) : Res := M (AV × Heap) (seqQ (evalE M C k35x7) (blockQ 0 (seqQ (evalE M C k35x5) (seqQ (evalE M C k35x3) (endQ [.tmp 2]))))) (rep 3 (.g [] true (.ptr p3) :: (rep 54 []))) h
noncomputable def J35x43 (M : Mk) (C : Cal) (i1x0 : Int) (i1x1 : Int) (i1x2 : Int) (i1x3 : Int) (i1x4 : Int) (p3 : Option Ad) (p4c0 : Option Ad) (i7 : Int) (b18 : Bool) (h : Heap) : Res := M (AV × Heap) (seqQ (evalE M C k35x10) (seqQ (evalE M C k35x9) (seqQ (evalE M C k35x7) (blockQ 0 (seqQ (evalE M C k35x5) (seqQ (evalE M C k35x3) (endQ [.tmp 2]))))))) (.any :: (.box [(.int .i64 i1x0), (.int .i64 i1x1), (.int .i64 i1x2), (.int .i64 i1x3), (.int .i64 i1x4)] :: (.any :: (.g [] true (.ptr p3) :: (.g [] true (.fn 51 [] [(.ptr p4c0)]) :: (.any :: .any :: (.g [] true (.int .i64 i7) :: (rep 10 (.g [] true (.bool b18) :: (rep 39 [])))))))))) h
noncomputable def J35x42 (M : Mk) (C : Cal) (i1x0 : Int) (i1x1 : Int) (i1x2 : Int) (i1x3 : Int) (i1x4 : Int) (p3 : Option Ad) (p4c0 : Option Ad) (i7 : Int) (b18 : Bool) (h : Heap) : Res := M (AV × Heap) (seqQ (evalE M C k35x12) (seqQ (evalE M C k35x10) (seqQ (evalE M C k35x9) (seqQ (evalE M C k35x7) (blockQ 0 (seqQ (evalE M C k35x5) (seqQ (evalE M C k35x3) (endQ [.tmp 2])))))))) (.any :: (.box [(.int .i64 i1x0), (.int .i64 i1x1), (.int .i64 i1x2), (.int .i64 i1x3), (.int .i64 i1x4)] :: (.any :: (.g [] true (.ptr p3) :: (.g [] true (.fn 51 [] [(.ptr p4c0)]) :: (.any :: .any :: (.g [] true (.int .i64 i7) :: (rep 10 (.g [] true (.bool b18) :: (rep 39 [])))))))))) h
noncomputable def J35x41 (M : Mk) (C : Cal) (i1x0 : Int) (i1x1 : Int) (i1x2 : Int) (i1x3 : Int) (i1x4 : Int) (p3 : Option Ad) (p4c0 : Option Ad) (i7 : Int) (b18 : Bool) (h : Heap) : Res := M (AV × Heap) (seqQ (evalE M C k35x14) (seqQ (evalE M C k35x12) (seqQ (evalE M C k35x10) (seqQ (evalE M C k35x9) (seqQ (evalE M C k35x7) (blockQ 0 (seqQ (evalE M C k35x5) (seqQ (evalE M C k35x3) (endQ [.tmp 2]))))))))) (.any :: (.box [(.int .i64 i1x0), (.int .i64 i1x1), (.int .i64 i1x2), (.int .i64 i1x3), (.int .i64 i1x4)] :: (.any :: (.g [] true (.ptr p3) :: (.g [] true (.fn 51 [] [(.ptr p4c0)]) :: (.any :: .any :: (.g [] true (.int .i64 i7) :: (rep 10 (.g [] true (.bool b18) :: (rep 39 [])))))))))) h
noncomputable def J35x40 (M : Mk) (C : Cal) (i1x0 : Int) (i1x1 : Int) (i1x2 : Int) (i1x3 : Int) (i1x4 : Int) (p3 : Option Ad) (p4c0 : Option Ad) (i7 : Int) (b18 : Bool) (h : Heap) : Res := M (AV × Heap) (seqQ (evalE M C k35x16) (seqQ (evalE M C k35x14) (seqQ (evalE M C k35x12) (seqQ (evalE M C k35x10) (seqQ (evalE M C k35x9) (seqQ (evalE M C k35x7) (blockQ 0 (seqQ (evalE M C k35x5) (seqQ (evalE M C k35x3) (endQ [.tmp 2])))))))))) (.any :: (.box [(.int .i64 i1x0), (.int .i64 i1x1), (.int .i64 i1x2), (.int .i64 i1x3), (.int .i64 i1x4)] :: (.any :: (.g [] true (.ptr p3) :: (.g [] true (.fn 51 [] [(.ptr p4c0)]) :: (.any :: .any :: (.g [] true (.int .i64 i7) :: (rep 10 (.g [] true (.bool b18) :: (rep 39 [])))))))))) h
noncomputable def J35x39 (M : Mk) (C : Cal) (i1x0 : Int) (i1x1 : Int) (i1x2 : Int) (i1x3 : Int) (i1x4 : Int) (p3 : Option Ad) (p4c0 : Option Ad) (i7 : Int) (b18 : Bool) (h : Heap) : Res := M (AV × Heap) (seqQ (evalE M C k35x18) (seqQ (evalE M C k35x16) (seqQ (evalE M C k35x14) (seqQ (evalE M C k35x12) (seqQ (evalE M C k35x10) (seqQ (evalE M C k35x9) (seqQ (evalE M C k35x7) (blockQ 0 (seqQ (evalE M C k35x5) (seqQ (evalE M C k35x3) (endQ [.tmp 2]))))))))))) (.any :: (.box [(.int .i64 i1x0), (.int .i64 i1x1), (.int .i64 i1x2), (.int .i64 i1x3), (.int .i64 i1x4)] :: (.any :: (.g [] true (.ptr p3) :: (.g [] true (.fn 51 [] [(.ptr p4c0)]) :: (.any :: .any :: (.g [] true (.int .i64 i7) :: (rep 10 (.g [] true (.bool b18) :: (rep 39 [])))))))))) h
noncomputable def J35x38 (M : Mk) (C : Cal) (i1x0 : Int) (i1x1 : Int) (i1x2 : Int) (i1x3 : Int) (i1x4 : Int) (p3 : Option Ad) (p4c0 : Option Ad) (i7 : Int) (b18 : Bool) (h : Heap) : Res := M (AV × Heap) (seqQ (evalE M C k35x20) (seqQ (evalE M C k35x18) (seqQ (evalE M C k35x16) (seqQ (evalE M C k35x14) (seqQ (evalE M C k35x12) (seqQ (evalE M C k35x10) (seqQ (evalE M C k35x9) (seqQ (evalE M C k35x7) (blockQ 0 (seqQ (evalE M C k35x5) (seqQ (evalE M C k35x3) (endQ [.tmp 2])))))))))))) (.any :: (.box [(.int .i64 i1x0), (.int .i64 i1x1), (.int .i64 i1x2), (.int .i64 i1x3), (.int .i64 i1x4)] :: (.any :: (.g [] true (.ptr p3) :: (.g [] true (.fn 51 [] [(.ptr p4c0)]) :: (.any :: .any :: (.g [] true (.int .i64 i7) :: (rep 10 (.g [] true (.bool b18) :: (rep 39 [])))))))))) h
noncomputable def J35x37 (M : Mk) (C : Cal) (i1x0 : Int) (i1x1 : Int) (i1x2 : Int) (i1x3 : Int) (i1x4 : Int) (p3 : Option Ad) (p4c0 : Option Ad) (i7 : Int) (b18 : Bool) (h : Heap) : Res := M (AV × Heap) (seqQ (evalE M C k35x22) (seqQ (evalE M C k35x20) (seqQ (evalE M C k35x18) (seqQ (evalE M C k35x16) (seqQ (evalE M C k35x14) (seqQ (evalE M C k35x12) (seqQ (evalE M C k35x10) (seqQ (evalE M C k35x9) (seqQ (evalE M C k35x7) (blockQ 0 (seqQ (evalE M C k35x5) (seqQ (evalE M C k35x3) (endQ [.tmp 2]))))))))))))) (.any :: (.box [(.int .i64 i1x0), (.int .i64 i1x1), (.int .i64 i1x2), (.int .i64 i1x3), (.int .i64 i1x4)] :: (.any :: (.g [] true (.ptr p3) :: (.g [] true (.fn 51 [] [(.ptr p4c0)]) :: (.any :: .any :: (.g [] true (.int .i64 i7) :: (rep 10 (.g [] true (.bool b18) :: (rep 39 [])))))))))) h
noncomputable def J35x36 (M : Mk) (C : Cal) (i1x0 : Int) (i1x1 : Int) (i1x2 : Int) (i1x3 : Int) (i1x4 : Int) (p3 : Option Ad) (p4c0 : Option Ad) (i7 : Int) (b18 : Bool) (h : Heap) : Res := M (AV × Heap) (seqQ (evalE M C k35x24) (seqQ (evalE M C k35x22) (seqQ (evalE M C k35x20) (seqQ (evalE M C k35x18) (seqQ (evalE M C k35x16) (seqQ (evalE M C k35x14) (seqQ (evalE M C k35x12) (seqQ (evalE M C k35x10) (seqQ (evalE M C k35x9) (seqQ (evalE M C k35x7) (blockQ 0 (seqQ (evalE M C k35x5) (seqQ (evalE M C k35x3) (endQ [.tmp 2])))))))))))))) (.any :: (.box [(.int .i64 i1x0), (.int .i64 i1x1), (.int .i64 i1x2), (.int .i64 i1x3), (.int .i64 i1x4)] :: (.any :: (.g [] true (.ptr p3) :: (.g [] true (.fn 51 [] [(.ptr p4c0)]) :: (.any :: .any :: (.g [] true (.int .i64 i7) :: (rep 10 (.g [] true (.bool b18) :: (rep 39 [])))))))))) h
noncomputable def J35x35 (M : Mk) (C : Cal) (i1x0 : Int) (i1x1 : Int) (i1x2 : Int) (i1x3 : Int) (i1x4 : Int) (p3 : Option Ad) (p4c0 : Option Ad) (i7 : Int) (b18 : Bool) (h : Heap) : Res := M (AV × Heap) (seqQ (evalE M C k35x26) (seqQ (evalE M C k35x24) (seqQ (evalE M C k35x22) (seqQ (evalE M C k35x20) (seqQ (evalE M C k35x18) (seqQ (evalE M C k35x16) (seqQ (evalE M C k35x14) (seqQ (evalE M C k35x12) (seqQ (evalE M C k35x10) (seqQ (evalE M C k35x9) (seqQ (evalE M C k35x7) (blockQ 0 (seqQ (evalE M C k35x5) (seqQ (evalE M C k35x3) (endQ [.tmp 2]))))))))))))))) (.any :: (.box [(.int .i64 i1x0), (.int .i64 i1x1), (.int .i64 i1x2), (.int .i64 i1x3), (.int .i64 i1x4)] :: (.any :: (.g [] true (.ptr p3) :: (.g [] true (.fn 51 [] [(.ptr p4c0)]) :: (.any :: .any :: (.g [] true (.int .i64 i7) :: (rep 10 (.g [] true (.bool b18) :: (rep 39 [])))))))))) h
noncomputable def J35x34 (M : Mk) (C : Cal) (i1x0 : Int) (i1x1 : Int) (i1x2 : Int) (i1x3 : Int) (i1x4 : Int) (p3 : Option Ad) (p4c0 : Option Ad) (i7 : Int) (b18 : Bool) (h : Heap) : Res := M (AV × Heap) (seqQ (evalE M C k35x28) (seqQ (evalE M C k35x26) (seqQ (evalE M C k35x24) (seqQ (evalE M C k35x22) (seqQ (evalE M C k35x20) (seqQ (evalE M C k35x18) (seqQ (evalE M C k35x16) (seqQ (evalE M C k35x14) (seqQ (evalE M C k35x12) (seqQ (evalE M C k35x10) (seqQ (evalE M C k35x9) (seqQ (evalE M C k35x7) (blockQ 0 (seqQ (evalE M C k35x5) (seqQ (evalE M C k35x3) (endQ [.tmp 2])))))))))))))))) (.any :: (.box [(.int .i64 i1x0), (.int .i64 i1x1), (.int .i64 i1x2), (.int .i64 i1x3), (.int .i64 i1x4)] :: (.any :: (.g [] true (.ptr p3) :: (.g [] true (.fn 51 [] [(.ptr p4c0)]) :: (.any :: .any :: (.g [] true (.int .i64 i7) :: (rep 10 (.g [] true (.bool b18) :: (rep 39 [])))))))))) h
noncomputable def J35x33 (M : Mk) (C : Cal) (i1x0 : Int) (i1x1 : Int) (i1x2 : Int) (i1x3 : Int) (i1x4 : Int) (p3 : Option Ad) (p4c0 : Option Ad) (i7 : Int) (b18 : Bool) (h : Heap) : Res := M (AV × Heap) (seqQ (evalE M C k35x30) (seqQ (evalE M C k35x28) (seqQ (evalE M C k35x26) (seqQ (evalE M C k35x24) (seqQ (evalE M C k35x22) (seqQ (evalE M C k35x20) (seqQ (evalE M C k35x18) (seqQ (evalE M C k35x16) (seqQ (evalE M C k35x14) (seqQ (evalE M C k35x12) (seqQ (evalE M C k35x10) (seqQ (evalE M C k35x9) (seqQ (evalE M C k35x7) (blockQ 0 (seqQ (evalE M C k35x5) (seqQ (evalE M C k35x3) (endQ [.tmp 2]))))))))))))))))) (.any :: (.box [(.int .i64 i1x0), (.int .i64 i1x1), (.int .i64 i1x2), (.int .i64 i1x3), (.int .i64 i1x4)] :: (.any :: (.g [] true (.ptr p3) :: (.g [] true (.fn 51 [] [(.ptr p4c0)]) :: (.any :: .any :: (.g [] true (.int .i64 i7) :: (rep 10 (.g [] true (.bool b18) :: (rep 39 [])))))))))) h
noncomputable def J35x66 (M : Mk) (C : Cal) (p3 : Option Ad) (h : Heap) : Res := M (AV × Heap) (seqQ (evalE M C k35x9) (seqQ (evalE M C k35x7) (blockQ 0 (seqQ (evalE M C k35x5) (seqQ (evalE M C k35x3) (endQ [.tmp 2])))))) (rep 3 (.g [] true (.ptr p3) :: (rep 54 []))) h
noncomputable def J35x60 (M : Mk) (C : Cal) (i1x0 : Int) (i1x1 : Int) (i1x2 : Int) (i1x3 : Int) (i1x4 : Int) (p3 : Option Ad) (p4c0 : Option Ad) (i7 : Int) (b38 : Bool) (h : Heap) : Res := M (AV × Heap) (seqQ (evalE M C k35x45) (seqQ (evalE M C k35x44) (seqQ (evalE M C k35x9) (seqQ (evalE M C k35x7) (blockQ 0 (seqQ (evalE M C k35x5) (seqQ (evalE M C k35x3) (endQ [.tmp 2])))))))) (.any :: (.box [(.int .i64 i1x0), (.int .i64 i1x1), (.int .i64 i1x2), (.int .i64 i1x3), (.int .i64 i1x4)] :: (.any :: (.g [] true (.ptr p3) :: (.g [] true (.fn 51 [] [(.ptr p4c0)]) :: (.any :: .any :: (.g [] true (.int .i64 i7) :: (rep 30 (.g [] true (.bool b38) :: (rep 19 [])))))))))) h
noncomputable def J35x59 (M : Mk) (C : Cal) (i1x0 : Int) (i1x1 : Int) (i1x2 : Int) (i1x3 : Int) (i1x4 : Int) (p3 : Option Ad) (p4c0 : Option Ad) (i7 : Int) (b38 : Bool) (h : Heap) : Res := M (AV × Heap) (seqQ (evalE M C k35x47) (seqQ (evalE M C k35x45) (seqQ (evalE M C k35x44) (seqQ (evalE M C k35x9) (seqQ (evalE M C k35x7) (blockQ 0 (seqQ (evalE M C k35x5) (seqQ (evalE M C k35x3) (endQ [.tmp 2]))))))))) (.any :: (.box [(.int .i64 i1x0), (.int .i64 i1x1), (.int .i64 i1x2), (.int .i64 i1x3), (.int .i64 i1x4)] :: (.any :: (.g [] true (.ptr p3) :: (.g [] true (.fn 51 [] [(.ptr p4c0)]) :: (.any :: .any :: (.g [] true (.int .i64 i7) :: (rep 30 (.g [] true (.bool b38) :: (rep 19 [])))))))))) h
noncomputable def J35x58 (M : Mk) (C : Cal) (i1x0 : Int) (i1x1 : Int) (i1x2 : Int) (i1x3 : Int) (i1x4 : Int) (p3 : Option Ad) (p4c0 : Option Ad) (i7 : Int) (b38 : Bool) (h : Heap) : Res := M (AV × Heap) (seqQ (evalE M C k35x49) (seqQ (evalE M C k35x47) (seqQ (evalE M C k35x45) (seqQ (evalE M C k35x44) (seqQ (evalE M C k35x9) (seqQ (evalE M C k35x7) (blockQ 0 (seqQ (evalE M C k35x5) (seqQ (evalE M C k35x3) (endQ [.tmp 2])))))))))) (.any :: (.box [(.int .i64 i1x0), (.int .i64 i1x1), (.int .i64 i1x2), (.int .i64 i1x3), (.int .i64 i1x4)] :: (.any :: (.g [] true (.ptr p3) :: (.g [] true (.fn 51 [] [(.ptr p4c0)]) :: (.any :: .any :: (.g [] true (.int .i64 i7) :: (rep 30 (.g [] true (.bool b38) :: (rep 19 [])))))))))) h
noncomputable def J35x57 (M : Mk) (C : Cal) (i1x0 : Int) (i1x1 : Int) (i1x2 : Int) (i1x3 : Int) (i1x4 : Int) (p3 : Option Ad) (p4c0 : Option Ad) (i7 : Int) (b38 : Bool) (h : Heap) : Res := M (AV × Heap) (seqQ (evalE M C k35x51) (seqQ (evalE M C k35x49) (seqQ (evalE M C k35x47) (seqQ (evalE M C k35x45) (seqQ (evalE M C k35x44) (seqQ (evalE M C k35x9) (seqQ (evalE M C k35x7) (blockQ 0 (seqQ (evalE M C k35x5) (seqQ (evalE M C k35x3) (endQ [.tmp 2]))))))))))) (.any :: (.box [(.int .i64 i1x0), (.int .i64 i1x1), (.int .i64 i1x2), (.int .i64 i1x3), (.int .i64 i1x4)] :: (.any :: (.g [] true (.ptr p3) :: (.g [] true (.fn 51 [] [(.ptr p4c0)]) :: (.any :: .any :: (.g [] true (.int .i64 i7) :: (rep 30 (.g [] true (.bool b38) :: (rep 19 [])))))))))) h
noncomputable def J35x56 (M : Mk) (C : Cal) (i1x0 : Int) (i1x1 : Int) (i1x2 : Int) (i1x3 : Int) (i1x4 : Int) (p3 : Option Ad) (p4c0 : Option Ad) (i7 : Int) (b38 : Bool) (h : Heap) : Res := M (AV × Heap) (seqQ (evalE M C k35x53) (seqQ (evalE M C k35x51) (seqQ (evalE M C k35x49) (seqQ (evalE M C k35x47) (seqQ (evalE M C k35x45) (seqQ (evalE M C k35x44) (seqQ (evalE M C k35x9) (seqQ (evalE M C k35x7) (blockQ 0 (seqQ (evalE M C k35x5) (seqQ (evalE M C k35x3) (endQ [.tmp 2])))))))))))) (.any :: (.box [(.int .i64 i1x0), (.int .i64 i1x1), (.int .i64 i1x2), (.int .i64 i1x3), (.int .i64 i1x4)] :: (.any :: (.g [] true (.ptr p3) :: (.g [] true (.fn 51 [] [(.ptr p4c0)]) :: (.any :: .any :: (.g [] true (.int .i64 i7) :: (rep 30 (.g [] true (.bool b38) :: (rep 19 [])))))))))) h
noncomputable def J35x65 (M : Mk) (C : Cal) (p3 : Option Ad) (h : Heap) : Res := M (AV × Heap) (seqQ (evalE M C k35x44) (seqQ (evalE M C k35x9) (seqQ (evalE M C k35x7) (blockQ 0 (seqQ (evalE M C k35x5) (seqQ (evalE M C k35x3) (endQ [.tmp 2]))))))) (rep 3 (.g [] true (.ptr p3) :: (rep 54 []))) h
noncomputable def J35x64 (M : Mk) (C : Cal) (p3 : Option Ad) (h : Heap) : Res := M (AV × Heap) (seqQ (evalE M C k35x61) (seqQ (evalE M C k35x44) (seqQ (evalE M C k35x9) (seqQ (evalE M C k35x7) (blockQ 0 (seqQ (evalE M C k35x5) (seqQ (evalE M C k35x3) (endQ [.tmp 2])))))))) (rep 3 (.g [] true (.ptr p3) :: (rep 54 []))) h
theorem r35 (i0x0 : Int) (i0x1 : Int) (i0x2 : Int) (i0x3 : Int) (i0x4 : Int) (h : Heap) : runE M C c35 [(.agg [(.int .i64 i0x0), (.int .i64 i0x1), (.int .i64 i0x2), (.int .i64 i0x3), (.int .i64 i0x4)])] h = (
  newK h (.cells [(.sl .nil 0)] .fix 0) fun h_2 =>
  letK ((decide ((i0x0 : Int) = 0)) : Bool) fun b9 =>
  if b9 = true then
    (
    newK h_2 (.cells [(.int .i64 1)] (.grow 1) 0) fun h_3 =>
    (C 51 [(.sl (.pos ⟨List.length h_2, 0, 0⟩) 1), (.ptr (some ⟨List.length h, 0, 0⟩))] h_3).bind fun r12 =>
    gT 0 r12.1 true fun u12 =>
    J35x68 M C (some ⟨List.length h, 0, 0⟩) r12.2
    )
  else
    (
    letK ((decide ((i0x0 : Int) = 22)) : Bool) fun b14 =>
    if b14 = true then
      (
      newK h_2 (.cells [(.int .i64 15)] (.grow 1) 0) fun h_3 =>
      (C 51 [(.sl (.pos ⟨List.length h_2, 0, 0⟩) 1), (.ptr (some ⟨List.length h, 0, 0⟩))] h_3).bind fun r17 =>
      gT 0 r17.1 true fun u17 =>
      J35x67 M C (some ⟨List.length h, 0, 0⟩) r17.2
      )
    else
      (
      letK ((decide ((i0x0 : Int) = 1)) : Bool) fun b19 =>
      if b19 = true then
        (
        J35x43 M C i0x0 i0x1 i0x2 i0x3 i0x4 (some ⟨List.length h, 0, 0⟩) (some ⟨List.length h, 0, 0⟩) i0x0 b19 h_2
        )
      else
        (
        letK ((decide ((i0x0 : Int) = 2)) : Bool) fun b20 =>
        if b20 = true then
          (
          J35x42 M C i0x0 i0x1 i0x2 i0x3 i0x4 (some ⟨List.length h, 0, 0⟩) (some ⟨List.length h, 0, 0⟩) i0x0 b20 h_2
          )
        else
          (
          letK ((decide ((i0x0 : Int) = 3)) : Bool) fun b21 =>
          if b21 = true then
            (
            J35x41 M C i0x0 i0x1 i0x2 i0x3 i0x4 (some ⟨List.length h, 0, 0⟩) (some ⟨List.length h, 0, 0⟩) i0x0 b21 h_2
            )
          else
            (
            letK ((decide ((i0x0 : Int) = 4)) : Bool) fun b22 =>
            if b22 = true then
              (
              J35x40 M C i0x0 i0x1 i0x2 i0x3 i0x4 (some ⟨List.length h, 0, 0⟩) (some ⟨List.length h, 0, 0⟩) i0x0 b22 h_2
              )
            else
              (
              letK ((decide ((i0x0 : Int) = 5)) : Bool) fun b23 =>
              if b23 = true then
                (
                J35x39 M C i0x0 i0x1 i0x2 i0x3 i0x4 (some ⟨List.length h, 0, 0⟩) (some ⟨List.length h, 0, 0⟩) i0x0 b23 h_2
                )
              else
                (
                letK ((decide ((i0x0 : Int) = 6)) : Bool) fun b24 =>
                if b24 = true then
                  (
                  J35x38 M C i0x0 i0x1 i0x2 i0x3 i0x4 (some ⟨List.length h, 0, 0⟩) (some ⟨List.length h, 0, 0⟩) i0x0 b24 h_2
                  )
                else
                  (
                  letK ((decide ((i0x0 : Int) = 7)) : Bool) fun b25 =>
                  if b25 = true then
                    (
                    J35x37 M C i0x0 i0x1 i0x2 i0x3 i0x4 (some ⟨List.length h, 0, 0⟩) (some ⟨List.length h, 0, 0⟩) i0x0 b25 h_2
                    )
                  else
                    (
                    letK ((decide ((i0x0 : Int) = 13)) : Bool) fun b26 =>
                    if b26 = true then
                      (
                      J35x36 M C i0x0 i0x1 i0x2 i0x3 i0x4 (some ⟨List.length h, 0, 0⟩) (some ⟨List.length h, 0, 0⟩) i0x0 b26 h_2
                      )
                    else
                      (
                      letK ((decide ((i0x0 : Int) = 15)) : Bool) fun b27 =>
                      if b27 = true then
                        (
                        J35x35 M C i0x0 i0x1 i0x2 i0x3 i0x4 (some ⟨List.length h, 0, 0⟩) (some ⟨List.length h, 0, 0⟩) i0x0 b27 h_2
                        )
                      else
                        (
                        letK ((decide ((i0x0 : Int) = 16)) : Bool) fun b28 =>
                        if b28 = true then
                          (
                          J35x34 M C i0x0 i0x1 i0x2 i0x3 i0x4 (some ⟨List.length h, 0, 0⟩) (some ⟨List.length h, 0, 0⟩) i0x0 b28 h_2
                          )
                        else
                          (
                          letK ((decide ((i0x0 : Int) = 17)) : Bool) fun b29 =>
                          if b29 = true then
                            (
                            J35x33 M C i0x0 i0x1 i0x2 i0x3 i0x4 (some ⟨List.length h, 0, 0⟩) (some ⟨List.length h, 0, 0⟩) i0x0 b29 h_2
                            )
                          else
                            (
                            letK ((decide ((i0x0 : Int) = 18)) : Bool) fun b30 =>
                            J35x33 M C i0x0 i0x1 i0x2 i0x3 i0x4 (some ⟨List.length h, 0, 0⟩) (some ⟨List.length h, 0, 0⟩) i0x0 b30 h_2
                            )
                          )
                        )
                      )
                    )
                  )
                )
              )
            )
          )
        )
      )
    )
  ) := by kernel_rfl
theorem cf35 : cFn Try.prog 35 = some c35 := by kernel_rfl
theorem e35 (i0x0 : Int) (i0x1 : Int) (i0x2 : Int) (i0x3 : Int) (i0x4 : Int) (h : Heap) : E 35 [(.agg [(.int .i64 i0x0), (.int .i64 i0x1), (.int .i64 i0x2), (.int .i64 i0x3), (.int .i64 i0x4)])] h = (
  newK h (.cells [(.sl .nil 0)] .fix 0) fun h_2 =>
  letK ((decide ((i0x0 : Int) = 0)) : Bool) fun b9 =>
  if b9 = true then
    (
    newK h_2 (.cells [(.int .i64 1)] (.grow 1) 0) fun h_3 =>
    (E 51 [(.sl (.pos ⟨List.length h_2, 0, 0⟩) 1), (.ptr (some ⟨List.length h, 0, 0⟩))] h_3).bind fun r12 =>
    gT 0 r12.1 true fun u12 =>
    J35x68 mk0 E (some ⟨List.length h, 0, 0⟩) r12.2
    )
  else
    (
    letK ((decide ((i0x0 : Int) = 22)) : Bool) fun b14 =>
    if b14 = true then
      (
      newK h_2 (.cells [(.int .i64 15)] (.grow 1) 0) fun h_3 =>
      (E 51 [(.sl (.pos ⟨List.length h_2, 0, 0⟩) 1), (.ptr (some ⟨List.length h, 0, 0⟩))] h_3).bind fun r17 =>
      gT 0 r17.1 true fun u17 =>
      J35x67 mk0 E (some ⟨List.length h, 0, 0⟩) r17.2
      )
    else
      (
      letK ((decide ((i0x0 : Int) = 1)) : Bool) fun b19 =>
      if b19 = true then
        (
        J35x43 mk0 E i0x0 i0x1 i0x2 i0x3 i0x4 (some ⟨List.length h, 0, 0⟩) (some ⟨List.length h, 0, 0⟩) i0x0 b19 h_2
        )
      else
        (
        letK ((decide ((i0x0 : Int) = 2)) : Bool) fun b20 =>
        if b20 = true then
          (
          J35x42 mk0 E i0x0 i0x1 i0x2 i0x3 i0x4 (some ⟨List.length h, 0, 0⟩) (some ⟨List.length h, 0, 0⟩) i0x0 b20 h_2
          )
        else
          (
          letK ((decide ((i0x0 : Int) = 3)) : Bool) fun b21 =>
          if b21 = true then
            (
            J35x41 mk0 E i0x0 i0x1 i0x2 i0x3 i0x4 (some ⟨List.length h, 0, 0⟩) (some ⟨List.length h, 0, 0⟩) i0x0 b21 h_2
            )
          else
            (
            letK ((decide ((i0x0 : Int) = 4)) : Bool) fun b22 =>
            if b22 = true then
              (
              J35x40 mk0 E i0x0 i0x1 i0x2 i0x3 i0x4 (some ⟨List.length h, 0, 0⟩) (some ⟨List.length h, 0, 0⟩) i0x0 b22 h_2
              )
            else
              (
              letK ((decide ((i0x0 : Int) = 5)) : Bool) fun b23 =>
              if b23 = true then
                (
                J35x39 mk0 E i0x0 i0x1 i0x2 i0x3 i0x4 (some ⟨List.length h, 0, 0⟩) (some ⟨List.length h, 0, 0⟩) i0x0 b23 h_2
                )
              else
                (
                letK ((decide ((i0x0 : Int) = 6)) : Bool) fun b24 =>
                if b24 = true then
                  (
                  J35x38 mk0 E i0x0 i0x1 i0x2 i0x3 i0x4 (some ⟨List.length h, 0, 0⟩) (some ⟨List.length h, 0, 0⟩) i0x0 b24 h_2
                  )
                else
                  (
                  letK ((decide ((i0x0 : Int) = 7)) : Bool) fun b25 =>
                  if b25 = true then
                    (
                    J35x37 mk0 E i0x0 i0x1 i0x2 i0x3 i0x4 (some ⟨List.length h, 0, 0⟩) (some ⟨List.length h, 0, 0⟩) i0x0 b25 h_2
                    )
                  else
                    (
                    letK ((decide ((i0x0 : Int) = 13)) : Bool) fun b26 =>
                    if b26 = true then
                      (
                      J35x36 mk0 E i0x0 i0x1 i0x2 i0x3 i0x4 (some ⟨List.length h, 0, 0⟩) (some ⟨List.length h, 0, 0⟩) i0x0 b26 h_2
                      )
                    else
                      (
                      letK ((decide ((i0x0 : Int) = 15)) : Bool) fun b27 =>
                      if b27 = true then
                        (
                        J35x35 mk0 E i0x0 i0x1 i0x2 i0x3 i0x4 (some ⟨List.length h, 0, 0⟩) (some ⟨List.length h, 0, 0⟩) i0x0 b27 h_2
                        )
                      else
                        (
                        letK ((decide ((i0x0 : Int) = 16)) : Bool) fun b28 =>
                        if b28 = true then
                          (
                          J35x34 mk0 E i0x0 i0x1 i0x2 i0x3 i0x4 (some ⟨List.length h, 0, 0⟩) (some ⟨List.length h, 0, 0⟩) i0x0 b28 h_2
                          )
                        else
                          (
                          letK ((decide ((i0x0 : Int) = 17)) : Bool) fun b29 =>
                          if b29 = true then
                            (
                            J35x33 mk0 E i0x0 i0x1 i0x2 i0x3 i0x4 (some ⟨List.length h, 0, 0⟩) (some ⟨List.length h, 0, 0⟩) i0x0 b29 h_2
                            )
                          else
                            (
                            letK ((decide ((i0x0 : Int) = 18)) : Bool) fun b30 =>
                            J35x33 mk0 E i0x0 i0x1 i0x2 i0x3 i0x4 (some ⟨List.length h, 0, 0⟩) (some ⟨List.length h, 0, 0⟩) i0x0 b30 h_2
                            )
                          )
                        )
                      )
                    )
                  )
                )
              )
            )
          )
        )
      )
    )
  ) := (EV_eq (P := Try.prog) (T := T0) rfl cf35 [(.agg [(.int .i64 i0x0), (.int .i64 i0x1), (.int .i64 i0x2), (.int .i64 i0x3), (.int .i64 i0x4)])] h).trans (r35 mk0 E i0x0 i0x1 i0x2 i0x3 i0x4 h)
theorem J35x68xaux (M : Mk) (C : Cal) (p3 : Option Ad) (h : Heap) : (forceK tk (rep 3 (.g [] true (.ptr p3) :: (rep 54 []))) fun e => (blockQ 0 (seqQ (evalE M C k35x5) (seqQ (evalE M C k35x3) (endQ [.tmp 2])))) .normal ⟨e, h⟩) = (
  atP p3 true fun a57 =>
  gL (ld1 h a57) true fun s57 n57 =>
  some ((.sl s57 n57), h)
  ) := by kernel_rfl
theorem J35x68xeq (C : Cal) (p3 : Option Ad) (h : Heap) : J35x68 mk0 C p3 h = (
  atP p3 true fun a57 =>
  gL (ld1 h a57) true fun s57 n57 =>
  some ((.sl s57 n57), h)
  ) := join_eqn (blockQ 0 (seqQ (evalE mk0 C k35x5) (seqQ (evalE mk0 C k35x3) (endQ [.tmp 2])))) (rep 3 (.g [] true (.ptr p3) :: (rep 54 []))) h (J35x68xaux mk0 C p3 h)
theorem J35x67xaux (M : Mk) (C : Cal) (p3 : Option Ad) (h : Heap) : (forceK tk (rep 3 (.g [] true (.ptr p3) :: (rep 54 []))) fun e => (seqQ (evalE M C k35x7) (blockQ 0 (seqQ (evalE M C k35x5) (seqQ (evalE M C k35x3) (endQ [.tmp 2]))))) .normal ⟨e, h⟩) = (
  J35x68 M C p3 h
  ) := by kernel_rfl
theorem J35x67xeq (C : Cal) (p3 : Option Ad) (h : Heap) : J35x67 mk0 C p3 h = (
  J35x68 mk0 C p3 h
  ) := join_eqn (seqQ (evalE mk0 C k35x7) (blockQ 0 (seqQ (evalE mk0 C k35x5) (seqQ (evalE mk0 C k35x3) (endQ [.tmp 2]))))) (rep 3 (.g [] true (.ptr p3) :: (rep 54 []))) h (J35x67xaux mk0 C p3 h)
theorem J35x43xaux (M : Mk) (C : Cal) (i1x0 : Int) (i1x1 : Int) (i1x2 : Int) (i1x3 : Int) (i1x4 : Int) (p3 : Option Ad) (p4c0 : Option Ad) (i7 : Int) (b18 : Bool) (h : Heap) : (forceK tk (.any :: (.box [(.int .i64 i1x0), (.int .i64 i1x1), (.int .i64 i1x2), (.int .i64 i1x3), (.int .i64 i1x4)] :: (.any :: (.g [] true (.ptr p3) :: (.g [] true (.fn 51 [] [(.ptr p4c0)]) :: (.any :: .any :: (.g [] true (.int .i64 i7) :: (rep 10 (.g [] true (.bool b18) :: (rep 39 [])))))))))) fun e => (seqQ (evalE M C k35x10) (seqQ (evalE M C k35x9) (seqQ (evalE M C k35x7) (blockQ 0 (seqQ (evalE M C k35x5) (seqQ (evalE M C k35x3) (endQ [.tmp 2]))))))) .normal ⟨e, h⟩) = (
  if b18 = true then
    (
    newK h (.cells [(.int .i64 i1x2), (.int .i64 i1x3)] (.grow 1) 0) fun h_2 =>
    (C 51 [(.sl (.pos ⟨List.length h, 0, 0⟩) 2), (.ptr p4c0)] h_2).bind fun r37 =>
    gT 0 r37.1 true fun u37 =>
    J35x66 M C p3 r37.2
    )
  else
    (
    letK ((decide ((i7 : Int) = 8)) : Bool) fun b39 =>
    if b39 = true then
      (
      J35x60 M C i1x0 i1x1 i1x2 i1x3 i1x4 p3 p4c0 i7 b39 h
      )
    else
      (
      letK ((decide ((i7 : Int) = 9)) : Bool) fun b40 =>
      if b40 = true then
        (
        J35x59 M C i1x0 i1x1 i1x2 i1x3 i1x4 p3 p4c0 i7 b40 h
        )
      else
        (
        letK ((decide ((i7 : Int) = 10)) : Bool) fun b41 =>
        if b41 = true then
          (
          J35x58 M C i1x0 i1x1 i1x2 i1x3 i1x4 p3 p4c0 i7 b41 h
          )
        else
          (
          letK ((decide ((i7 : Int) = 12)) : Bool) fun b42 =>
          if b42 = true then
            (
            J35x57 M C i1x0 i1x1 i1x2 i1x3 i1x4 p3 p4c0 i7 b42 h
            )
          else
            (
            letK ((decide ((i7 : Int) = 21)) : Bool) fun b43 =>
            if b43 = true then
              (
              J35x56 M C i1x0 i1x1 i1x2 i1x3 i1x4 p3 p4c0 i7 b43 h
              )
            else
              (
              letK ((decide ((i7 : Int) = 23)) : Bool) fun b44 =>
              J35x56 M C i1x0 i1x1 i1x2 i1x3 i1x4 p3 p4c0 i7 b44 h
              )
            )
          )
        )
      )
    )
  ) := by kernel_rfl
theorem J35x43xeq (C : Cal) (i1x0 : Int) (i1x1 : Int) (i1x2 : Int) (i1x3 : Int) (i1x4 : Int) (p3 : Option Ad) (p4c0 : Option Ad) (i7 : Int) (b18 : Bool) (h : Heap) : J35x43 mk0 C i1x0 i1x1 i1x2 i1x3 i1x4 p3 p4c0 i7 b18 h = (
  if b18 = true then
    (
    newK h (.cells [(.int .i64 i1x2), (.int .i64 i1x3)] (.grow 1) 0) fun h_2 =>
    (C 51 [(.sl (.pos ⟨List.length h, 0, 0⟩) 2), (.ptr p4c0)] h_2).bind fun r37 =>
    gT 0 r37.1 true fun u37 =>
    J35x66 mk0 C p3 r37.2
    )
  else
    (
    letK ((decide ((i7 : Int) = 8)) : Bool) fun b39 =>
    if b39 = true then
      (
      J35x60 mk0 C i1x0 i1x1 i1x2 i1x3 i1x4 p3 p4c0 i7 b39 h
      )
    else
      (
      letK ((decide ((i7 : Int) = 9)) : Bool) fun b40 =>
      if b40 = true then
        (
        J35x59 mk0 C i1x0 i1x1 i1x2 i1x3 i1x4 p3 p4c0 i7 b40 h
        )
      else
        (
        letK ((decide ((i7 : Int) = 10)) : Bool) fun b41 =>
        if b41 = true then
          (
          J35x58 mk0 C i1x0 i1x1 i1x2 i1x3 i1x4 p3 p4c0 i7 b41 h
          )
        else
          (
          letK ((decide ((i7 : Int) = 12)) : Bool) fun b42 =>
          if b42 = true then
            (
            J35x57 mk0 C i1x0 i1x1 i1x2 i1x3 i1x4 p3 p4c0 i7 b42 h
            )
          else
            (
            letK ((decide ((i7 : Int) = 21)) : Bool) fun b43 =>
            if b43 = true then
              (
              J35x56 mk0 C i1x0 i1x1 i1x2 i1x3 i1x4 p3 p4c0 i7 b43 h
              )
            else
              (
              letK ((decide ((i7 : Int) = 23)) : Bool) fun b44 =>
              J35x56 mk0 C i1x0 i1x1 i1x2 i1x3 i1x4 p3 p4c0 i7 b44 h
              )
            )
          )
        )
      )
    )
  ) := join_eqn (seqQ (evalE mk0 C k35x10) (seqQ (evalE mk0 C k35x9) (seqQ (evalE mk0 C k35x7) (blockQ 0 (seqQ (evalE mk0 C k35x5) (seqQ (evalE mk0 C k35x3) (endQ [.tmp 2]))))))) (.any :: (.box [(.int .i64 i1x0), (.int .i64 i1x1), (.int .i64 i1x2), (.int .i64 i1x3), (.int .i64 i1x4)] :: (.any :: (.g [] true (.ptr p3) :: (.g [] true (.fn 51 [] [(.ptr p4c0)]) :: (.any :: .any :: (.g [] true (.int .i64 i7) :: (rep 10 (.g [] true (.bool b18) :: (rep 39 [])))))))))) h (J35x43xaux mk0 C i1x0 i1x1 i1x2 i1x3 i1x4 p3 p4c0 i7 b18 h)
theorem J35x42xaux (M : Mk) (C : Cal) (i1x0 : Int) (i1x1 : Int) (i1x2 : Int) (i1x3 : Int) (i1x4 : Int) (p3 : Option Ad) (p4c0 : Option Ad) (i7 : Int) (b18 : Bool) (h : Heap) : (forceK tk (.any :: (.box [(.int .i64 i1x0), (.int .i64 i1x1), (.int .i64 i1x2), (.int .i64 i1x3), (.int .i64 i1x4)] :: (.any :: (.g [] true (.ptr p3) :: (.g [] true (.fn 51 [] [(.ptr p4c0)]) :: (.any :: .any :: (.g [] true (.int .i64 i7) :: (rep 10 (.g [] true (.bool b18) :: (rep 39 [])))))))))) fun e => (seqQ (evalE M C k35x12) (seqQ (evalE M C k35x10) (seqQ (evalE M C k35x9) (seqQ (evalE M C k35x7) (blockQ 0 (seqQ (evalE M C k35x5) (seqQ (evalE M C k35x3) (endQ [.tmp 2])))))))) .normal ⟨e, h⟩) = (
  J35x43 M C i1x0 i1x1 i1x2 i1x3 i1x4 p3 p4c0 i7 b18 h
  ) := by kernel_rfl
theorem J35x42xeq (C : Cal) (i1x0 : Int) (i1x1 : Int) (i1x2 : Int) (i1x3 : Int) (i1x4 : Int) (p3 : Option Ad) (p4c0 : Option Ad) (i7 : Int) (b18 : Bool) (h : Heap) : J35x42 mk0 C i1x0 i1x1 i1x2 i1x3 i1x4 p3 p4c0 i7 b18 h = (
  J35x43 mk0 C i1x0 i1x1 i1x2 i1x3 i1x4 p3 p4c0 i7 b18 h
  ) := join_eqn (seqQ (evalE mk0 C k35x12) (seqQ (evalE mk0 C k35x10) (seqQ (evalE mk0 C k35x9) (seqQ (evalE mk0 C k35x7) (blockQ 0 (seqQ (evalE mk0 C k35x5) (seqQ (evalE mk0 C k35x3) (endQ [.tmp 2])))))))) (.any :: (.box [(.int .i64 i1x0), (.int .i64 i1x1), (.int .i64 i1x2), (.int .i64 i1x3), (.int .i64 i1x4)] :: (.any :: (.g [] true (.ptr p3) :: (.g [] true (.fn 51 [] [(.ptr p4c0)]) :: (.any :: .any :: (.g [] true (.int .i64 i7) :: (rep 10 (.g [] true (.bool b18) :: (rep 39 [])))))))))) h (J35x42xaux mk0 C i1x0 i1x1 i1x2 i1x3 i1x4 p3 p4c0 i7 b18 h)
theorem J35x41xaux (M : Mk) (C : Cal) (i1x0 : Int) (i1x1 : Int) (i1x2 : Int) (i1x3 : Int) (i1x4 : Int) (p3 : Option Ad) (p4c0 : Option Ad) (i7 : Int) (b18 : Bool) (h : Heap) : (forceK tk (.any :: (.box [(.int .i64 i1x0), (.int .i64 i1x1), (.int .i64 i1x2), (.int .i64 i1x3), (.int .i64 i1x4)] :: (.any :: (.g [] true (.ptr p3) :: (.g [] true (.fn 51 [] [(.ptr p4c0)]) :: (.any :: .any :: (.g [] true (.int .i64 i7) :: (rep 10 (.g [] true (.bool b18) :: (rep 39 [])))))))))) fun e => (seqQ (evalE M C k35x14) (seqQ (evalE M C k35x12) (seqQ (evalE M C k35x10) (seqQ (evalE M C k35x9) (seqQ (evalE M C k35x7) (blockQ 0 (seqQ (evalE M C k35x5) (seqQ (evalE M C k35x3) (endQ [.tmp 2]))))))))) .normal ⟨e, h⟩) = (
  J35x42 M C i1x0 i1x1 i1x2 i1x3 i1x4 p3 p4c0 i7 b18 h
  ) := by kernel_rfl
theorem J35x41xeq (C : Cal) (i1x0 : Int) (i1x1 : Int) (i1x2 : Int) (i1x3 : Int) (i1x4 : Int) (p3 : Option Ad) (p4c0 : Option Ad) (i7 : Int) (b18 : Bool) (h : Heap) : J35x41 mk0 C i1x0 i1x1 i1x2 i1x3 i1x4 p3 p4c0 i7 b18 h = (
  J35x42 mk0 C i1x0 i1x1 i1x2 i1x3 i1x4 p3 p4c0 i7 b18 h
  ) := join_eqn (seqQ (evalE mk0 C k35x14) (seqQ (evalE mk0 C k35x12) (seqQ (evalE mk0 C k35x10) (seqQ (evalE mk0 C k35x9) (seqQ (evalE mk0 C k35x7) (blockQ 0 (seqQ (evalE mk0 C k35x5) (seqQ (evalE mk0 C k35x3) (endQ [.tmp 2]))))))))) (.any :: (.box [(.int .i64 i1x0), (.int .i64 i1x1), (.int .i64 i1x2), (.int .i64 i1x3), (.int .i64 i1x4)] :: (.any :: (.g [] true (.ptr p3) :: (.g [] true (.fn 51 [] [(.ptr p4c0)]) :: (.any :: .any :: (.g [] true (.int .i64 i7) :: (rep 10 (.g [] true (.bool b18) :: (rep 39 [])))))))))) h (J35x41xaux mk0 C i1x0 i1x1 i1x2 i1x3 i1x4 p3 p4c0 i7 b18 h)
theorem J35x40xaux (M : Mk) (C : Cal) (i1x0 : Int) (i1x1 : Int) (i1x2 : Int) (i1x3 : Int) (i1x4 : Int) (p3 : Option Ad) (p4c0 : Option Ad) (i7 : Int) (b18 : Bool) (h : Heap) : (forceK tk (.any :: (.box [(.int .i64 i1x0), (.int .i64 i1x1), (.int .i64 i1x2), (.int .i64 i1x3), (.int .i64 i1x4)] :: (.any :: (.g [] true (.ptr p3) :: (.g [] true (.fn 51 [] [(.ptr p4c0)]) :: (.any :: .any :: (.g [] true (.int .i64 i7) :: (rep 10 (.g [] true (.bool b18) :: (rep 39 [])))))))))) fun e => (seqQ (evalE M C k35x16) (seqQ (evalE M C k35x14) (seqQ (evalE M C k35x12) (seqQ (evalE M C k35x10) (seqQ (evalE M C k35x9) (seqQ (evalE M C k35x7) (blockQ 0 (seqQ (evalE M C k35x5) (seqQ (evalE M C k35x3) (endQ [.tmp 2])))))))))) .normal ⟨e, h⟩) = (
  J35x41 M C i1x0 i1x1 i1x2 i1x3 i1x4 p3 p4c0 i7 b18 h
  ) := by kernel_rfl
theorem J35x40xeq (C : Cal) (i1x0 : Int) (i1x1 : Int) (i1x2 : Int) (i1x3 : Int) (i1x4 : Int) (p3 : Option Ad) (p4c0 : Option Ad) (i7 : Int) (b18 : Bool) (h : Heap) : J35x40 mk0 C i1x0 i1x1 i1x2 i1x3 i1x4 p3 p4c0 i7 b18 h = (
  J35x41 mk0 C i1x0 i1x1 i1x2 i1x3 i1x4 p3 p4c0 i7 b18 h
  ) := join_eqn (seqQ (evalE mk0 C k35x16) (seqQ (evalE mk0 C k35x14) (seqQ (evalE mk0 C k35x12) (seqQ (evalE mk0 C k35x10) (seqQ (evalE mk0 C k35x9) (seqQ (evalE mk0 C k35x7) (blockQ 0 (seqQ (evalE mk0 C k35x5) (seqQ (evalE mk0 C k35x3) (endQ [.tmp 2])))))))))) (.any :: (.box [(.int .i64 i1x0), (.int .i64 i1x1), (.int .i64 i1x2), (.int .i64 i1x3), (.int .i64 i1x4)] :: (.any :: (.g [] true (.ptr p3) :: (.g [] true (.fn 51 [] [(.ptr p4c0)]) :: (.any :: .any :: (.g [] true (.int .i64 i7) :: (rep 10 (.g [] true (.bool b18) :: (rep 39 [])))))))))) h (J35x40xaux mk0 C i1x0 i1x1 i1x2 i1x3 i1x4 p3 p4c0 i7 b18 h)
theorem J35x39xaux (M : Mk) (C : Cal) (i1x0 : Int) (i1x1 : Int) (i1x2 : Int) (i1x3 : Int) (i1x4 : Int) (p3 : Option Ad) (p4c0 : Option Ad) (i7 : Int) (b18 : Bool) (h : Heap) : (forceK tk (.any :: (.box [(.int .i64 i1x0), (.int .i64 i1x1), (.int .i64 i1x2), (.int .i64 i1x3), (.int .i64 i1x4)] :: (.any :: (.g [] true (.ptr p3) :: (.g [] true (.fn 51 [] [(.ptr p4c0)]) :: (.any :: .any :: (.g [] true (.int .i64 i7) :: (rep 10 (.g [] true (.bool b18) :: (rep 39 [])))))))))) fun e => (seqQ (evalE M C k35x18) (seqQ (evalE M C k35x16) (seqQ (evalE M C k35x14) (seqQ (evalE M C k35x12) (seqQ (evalE M C k35x10) (seqQ (evalE M C k35x9) (seqQ (evalE M C k35x7) (blockQ 0 (seqQ (evalE M C k35x5) (seqQ (evalE M C k35x3) (endQ [.tmp 2]))))))))))) .normal ⟨e, h⟩) = (
  J35x40 M C i1x0 i1x1 i1x2 i1x3 i1x4 p3 p4c0 i7 b18 h
  ) := by kernel_rfl
theorem J35x39xeq (C : Cal) (i1x0 : Int) (i1x1 : Int) (i1x2 : Int) (i1x3 : Int) (i1x4 : Int) (p3 : Option Ad) (p4c0 : Option Ad) (i7 : Int) (b18 : Bool) (h : Heap) : J35x39 mk0 C i1x0 i1x1 i1x2 i1x3 i1x4 p3 p4c0 i7 b18 h = (
  J35x40 mk0 C i1x0 i1x1 i1x2 i1x3 i1x4 p3 p4c0 i7 b18 h
  ) := join_eqn (seqQ (evalE mk0 C k35x18) (seqQ (evalE mk0 C k35x16) (seqQ (evalE mk0 C k35x14) (seqQ (evalE mk0 C k35x12) (seqQ (evalE mk0 C k35x10) (seqQ (evalE mk0 C k35x9) (seqQ (evalE mk0 C k35x7) (blockQ 0 (seqQ (evalE mk0 C k35x5) (seqQ (evalE mk0 C k35x3) (endQ [.tmp 2]))))))))))) (.any :: (.box [(.int .i64 i1x0), (.int .i64 i1x1), (.int .i64 i1x2), (.int .i64 i1x3), (.int .i64 i1x4)] :: (.any :: (.g [] true (.ptr p3) :: (.g [] true (.fn 51 [] [(.ptr p4c0)]) :: (.any :: .any :: (.g [] true (.int .i64 i7) :: (rep 10 (.g [] true (.bool b18) :: (rep 39 [])))))))))) h (J35x39xaux mk0 C i1x0 i1x1 i1x2 i1x3 i1x4 p3 p4c0 i7 b18 h)
theorem J35x38xaux (M : Mk) (C : Cal) (i1x0 : Int) (i1x1 : Int) (i1x2 : Int) (i1x3 : Int) (i1x4 : Int) (p3 : Option Ad) (p4c0 : Option Ad) (i7 : Int) (b18 : Bool) (h : Heap) : (forceK tk (.any :: (.box [(.int .i64 i1x0), (.int .i64 i1x1), (.int .i64 i1x2), (.int .i64 i1x3), (.int .i64 i1x4)] :: (.any :: (.g [] true (.ptr p3) :: (.g [] true (.fn 51 [] [(.ptr p4c0)]) :: (.any :: .any :: (.g [] true (.int .i64 i7) :: (rep 10 (.g [] true (.bool b18) :: (rep 39 [])))))))))) fun e => (seqQ (evalE M C k35x20) (seqQ (evalE M C k35x18) (seqQ (evalE M C k35x16) (seqQ (evalE M C k35x14) (seqQ (evalE M C k35x12) (seqQ (evalE M C k35x10) (seqQ (evalE M C k35x9) (seqQ (evalE M C k35x7) (blockQ 0 (seqQ (evalE M C k35x5) (seqQ (evalE M C k35x3) (endQ [.tmp 2])))))))))))) .normal ⟨e, h⟩) = (
  J35x39 M C i1x0 i1x1 i1x2 i1x3 i1x4 p3 p4c0 i7 b18 h
  ) := by kernel_rfl
theorem J35x38xeq (C : Cal) (i1x0 : Int) (i1x1 : Int) (i1x2 : Int) (i1x3 : Int) (i1x4 : Int) (p3 : Option Ad) (p4c0 : Option Ad) (i7 : Int) (b18 : Bool) (h : Heap) : J35x38 mk0 C i1x0 i1x1 i1x2 i1x3 i1x4 p3 p4c0 i7 b18 h = (
  J35x39 mk0 C i1x0 i1x1 i1x2 i1x3 i1x4 p3 p4c0 i7 b18 h
  ) := join_eqn (seqQ (evalE mk0 C k35x20) (seqQ (evalE mk0 C k35x18) (seqQ (evalE mk0 C k35x16) (seqQ (evalE mk0 C k35x14) (seqQ (evalE mk0 C k35x12) (seqQ (evalE mk0 C k35x10) (seqQ (evalE mk0 C k35x9) (seqQ (evalE mk0 C k35x7) (blockQ 0 (seqQ (evalE mk0 C k35x5) (seqQ (evalE mk0 C k35x3) (endQ [.tmp 2])))))))))))) (.any :: (.box [(.int .i64 i1x0), (.int .i64 i1x1), (.int .i64 i1x2), (.int .i64 i1x3), (.int .i64 i1x4)] :: (.any :: (.g [] true (.ptr p3) :: (.g [] true (.fn 51 [] [(.ptr p4c0)]) :: (.any :: .any :: (.g [] true (.int .i64 i7) :: (rep 10 (.g [] true (.bool b18) :: (rep 39 [])))))))))) h (J35x38xaux mk0 C i1x0 i1x1 i1x2 i1x3 i1x4 p3 p4c0 i7 b18 h)
theorem J35x37xaux (M : Mk) (C : Cal) (i1x0 : Int) (i1x1 : Int) (i1x2 : Int) (i1x3 : Int) (i1x4 : Int) (p3 : Option Ad) (p4c0 : Option Ad) (i7 : Int) (b18 : Bool) (h : Heap) : (forceK tk (.any :: (.box [(.int .i64 i1x0), (.int .i64 i1x1), (.int .i64 i1x2), (.int .i64 i1x3), (.int .i64 i1x4)] :: (.any :: (.g [] true (.ptr p3) :: (.g [] true (.fn 51 [] [(.ptr p4c0)]) :: (.any :: .any :: (.g [] true (.int .i64 i7) :: (rep 10 (.g [] true (.bool b18) :: (rep 39 [])))))))))) fun e => (seqQ (evalE M C k35x22) (seqQ (evalE M C k35x20) (seqQ (evalE M C k35x18) (seqQ (evalE M C k35x16) (seqQ (evalE M C k35x14) (seqQ (evalE M C k35x12) (seqQ (evalE M C k35x10) (seqQ (evalE M C k35x9) (seqQ (evalE M C k35x7) (blockQ 0 (seqQ (evalE M C k35x5) (seqQ (evalE M C k35x3) (endQ [.tmp 2]))))))))))))) .normal ⟨e, h⟩) = (
  J35x38 M C i1x0 i1x1 i1x2 i1x3 i1x4 p3 p4c0 i7 b18 h
  ) := by kernel_rfl
theorem J35x37xeq (C : Cal) (i1x0 : Int) (i1x1 : Int) (i1x2 : Int) (i1x3 : Int) (i1x4 : Int) (p3 : Option Ad) (p4c0 : Option Ad) (i7 : Int) (b18 : Bool) (h : Heap) : J35x37 mk0 C i1x0 i1x1 i1x2 i1x3 i1x4 p3 p4c0 i7 b18 h = (
  J35x38 mk0 C i1x0 i1x1 i1x2 i1x3 i1x4 p3 p4c0 i7 b18 h
  ) := join_eqn (seqQ (evalE mk0 C k35x22) (seqQ (evalE mk0 C k35x20) (seqQ (evalE mk0 C k35x18) (seqQ (evalE mk0 C k35x16) (seqQ (evalE mk0 C k35x14) (seqQ (evalE mk0 C k35x12) (seqQ (evalE mk0 C k35x10) (seqQ (evalE mk0 C k35x9) (seqQ (evalE mk0 C k35x7) (blockQ 0 (seqQ (evalE mk0 C k35x5) (seqQ (evalE mk0 C k35x3) (endQ [.tmp 2]))))))))))))) (.any :: (.box [(.int .i64 i1x0), (.int .i64 i1x1), (.int .i64 i1x2), (.int .i64 i1x3), (.int .i64 i1x4)] :: (.any :: (.g [] true (.ptr p3) :: (.g [] true (.fn 51 [] [(.ptr p4c0)]) :: (.any :: .any :: (.g [] true (.int .i64 i7) :: (rep 10 (.g [] true (.bool b18) :: (rep 39 [])))))))))) h (J35x37xaux mk0 C i1x0 i1x1 i1x2 i1x3 i1x4 p3 p4c0 i7 b18 h)
theorem J35x36xaux (M : Mk) (C : Cal) (i1x0 : Int) (i1x1 : Int) (i1x2 : Int) (i1x3 : Int) (i1x4 : Int) (p3 : Option Ad) (p4c0 : Option Ad) (i7 : Int) (b18 : Bool) (h : Heap) : (forceK tk (.any :: (.box [(.int .i64 i1x0), (.int .i64 i1x1), (.int .i64 i1x2), (.int .i64 i1x3), (.int .i64 i1x4)] :: (.any :: (.g [] true (.ptr p3) :: (.g [] true (.fn 51 [] [(.ptr p4c0)]) :: (.any :: .any :: (.g [] true (.int .i64 i7) :: (rep 10 (.g [] true (.bool b18) :: (rep 39 [])))))))))) fun e => (seqQ (evalE M C k35x24) (seqQ (evalE M C k35x22) (seqQ (evalE M C k35x20) (seqQ (evalE M C k35x18) (seqQ (evalE M C k35x16) (seqQ (evalE M C k35x14) (seqQ (evalE M C k35x12) (seqQ (evalE M C k35x10) (seqQ (evalE M C k35x9) (seqQ (evalE M C k35x7) (blockQ 0 (seqQ (evalE M C k35x5) (seqQ (evalE M C k35x3) (endQ [.tmp 2])))))))))))))) .normal ⟨e, h⟩) = (
  J35x37 M C i1x0 i1x1 i1x2 i1x3 i1x4 p3 p4c0 i7 b18 h
  ) := by kernel_rfl
theorem J35x36xeq (C : Cal) (i1x0 : Int) (i1x1 : Int) (i1x2 : Int) (i1x3 : Int) (i1x4 : Int) (p3 : Option Ad) (p4c0 : Option Ad) (i7 : Int) (b18 : Bool) (h : Heap) : J35x36 mk0 C i1x0 i1x1 i1x2 i1x3 i1x4 p3 p4c0 i7 b18 h = (
  J35x37 mk0 C i1x0 i1x1 i1x2 i1x3 i1x4 p3 p4c0 i7 b18 h
  ) := join_eqn (seqQ (evalE mk0 C k35x24) (seqQ (evalE mk0 C k35x22) (seqQ (evalE mk0 C k35x20) (seqQ (evalE mk0 C k35x18) (seqQ (evalE mk0 C k35x16) (seqQ (evalE mk0 C k35x14) (seqQ (evalE mk0 C k35x12) (seqQ (evalE mk0 C k35x10) (seqQ (evalE mk0 C k35x9) (seqQ (evalE mk0 C k35x7) (blockQ 0 (seqQ (evalE mk0 C k35x5) (seqQ (evalE mk0 C k35x3) (endQ [.tmp 2])))))))))))))) (.any :: (.box [(.int .i64 i1x0), (.int .i64 i1x1), (.int .i64 i1x2), (.int .i64 i1x3), (.int .i64 i1x4)] :: (.any :: (.g [] true (.ptr p3) :: (.g [] true (.fn 51 [] [(.ptr p4c0)]) :: (.any :: .any :: (.g [] true (.int .i64 i7) :: (rep 10 (.g [] true (.bool b18) :: (rep 39 [])))))))))) h (J35x36xaux mk0 C i1x0 i1x1 i1x2 i1x3 i1x4 p3 p4c0 i7 b18 h)
theorem J35x35xaux (M : Mk) (C : Cal) (i1x0 : Int) (i1x1 : Int) (i1x2 : Int) (i1x3 : Int) (i1x4 : Int) (p3 : Option Ad) (p4c0 : Option Ad) (i7 : Int) (b18 : Bool) (h : Heap) : (forceK tk (.any :: (.box [(.int .i64 i1x0), (.int .i64 i1x1), (.int .i64 i1x2), (.int .i64 i1x3), (.int .i64 i1x4)] :: (.any :: (.g [] true (.ptr p3) :: (.g [] true (.fn 51 [] [(.ptr p4c0)]) :: (.any :: .any :: (.g [] true (.int .i64 i7) :: (rep 10 (.g [] true (.bool b18) :: (rep 39 [])))))))))) fun e => (seqQ (evalE M C k35x26) (seqQ (evalE M C k35x24) (seqQ (evalE M C k35x22) (seqQ (evalE M C k35x20) (seqQ (evalE M C k35x18) (seqQ (evalE M C k35x16) (seqQ (evalE M C k35x14) (seqQ (evalE M C k35x12) (seqQ (evalE M C k35x10) (seqQ (evalE M C k35x9) (seqQ (evalE M C k35x7) (blockQ 0 (seqQ (evalE M C k35x5) (seqQ (evalE M C k35x3) (endQ [.tmp 2]))))))))))))))) .normal ⟨e, h⟩) = (
  J35x36 M C i1x0 i1x1 i1x2 i1x3 i1x4 p3 p4c0 i7 b18 h
  ) := by kernel_rfl
theorem J35x35xeq (C : Cal) (i1x0 : Int) (i1x1 : Int) (i1x2 : Int) (i1x3 : Int) (i1x4 : Int) (p3 : Option Ad) (p4c0 : Option Ad) (i7 : Int) (b18 : Bool) (h : Heap) : J35x35 mk0 C i1x0 i1x1 i1x2 i1x3 i1x4 p3 p4c0 i7 b18 h = (
  J35x36 mk0 C i1x0 i1x1 i1x2 i1x3 i1x4 p3 p4c0 i7 b18 h
  ) := join_eqn (seqQ (evalE mk0 C k35x26) (seqQ (evalE mk0 C k35x24) (seqQ (evalE mk0 C k35x22) (seqQ (evalE mk0 C k35x20) (seqQ (evalE mk0 C k35x18) (seqQ (evalE mk0 C k35x16) (seqQ (evalE mk0 C k35x14) (seqQ (evalE mk0 C k35x12) (seqQ (evalE mk0 C k35x10) (seqQ (evalE mk0 C k35x9) (seqQ (evalE mk0 C k35x7) (blockQ 0 (seqQ (evalE mk0 C k35x5) (seqQ (evalE mk0 C k35x3) (endQ [.tmp 2]))))))))))))))) (.any :: (.box [(.int .i64 i1x0), (.int .i64 i1x1), (.int .i64 i1x2), (.int .i64 i1x3), (.int .i64 i1x4)] :: (.any :: (.g [] true (.ptr p3) :: (.g [] true (.fn 51 [] [(.ptr p4c0)]) :: (.any :: .any :: (.g [] true (.int .i64 i7) :: (rep 10 (.g [] true (.bool b18) :: (rep 39 [])))))))))) h (J35x35xaux mk0 C i1x0 i1x1 i1x2 i1x3 i1x4 p3 p4c0 i7 b18 h)
theorem J35x34xaux (M : Mk) (C : Cal) (i1x0 : Int) (i1x1 : Int) (i1x2 : Int) (i1x3 : Int) (i1x4 : Int) (p3 : Option Ad) (p4c0 : Option Ad) (i7 : Int) (b18 : Bool) (h : Heap) : (forceK tk (.any :: (.box [(.int .i64 i1x0), (.int .i64 i1x1), (.int .i64 i1x2), (.int .i64 i1x3), (.int .i64 i1x4)] :: (.any :: (.g [] true (.ptr p3) :: (.g [] true (.fn 51 [] [(.ptr p4c0)]) :: (.any :: .any :: (.g [] true (.int .i64 i7) :: (rep 10 (.g [] true (.bool b18) :: (rep 39 [])))))))))) fun e => (seqQ (evalE M C k35x28) (seqQ (evalE M C k35x26) (seqQ (evalE M C k35x24) (seqQ (evalE M C k35x22) (seqQ (evalE M C k35x20) (seqQ (evalE M C k35x18) (seqQ (evalE M C k35x16) (seqQ (evalE M C k35x14) (seqQ (evalE M C k35x12) (seqQ (evalE M C k35x10) (seqQ (evalE M C k35x9) (seqQ (evalE M C k35x7) (blockQ 0 (seqQ (evalE M C k35x5) (seqQ (evalE M C k35x3) (endQ [.tmp 2])))))))))))))))) .normal ⟨e, h⟩) = (
  J35x35 M C i1x0 i1x1 i1x2 i1x3 i1x4 p3 p4c0 i7 b18 h
  ) := by kernel_rfl
theorem J35x34xeq (C : Cal) (i1x0 : Int) (i1x1 : Int) (i1x2 : Int) (i1x3 : Int) (i1x4 : Int) (p3 : Option Ad) (p4c0 : Option Ad) (i7 : Int) (b18 : Bool) (h : Heap) : J35x34 mk0 C i1x0 i1x1 i1x2 i1x3 i1x4 p3 p4c0 i7 b18 h = (
  J35x35 mk0 C i1x0 i1x1 i1x2 i1x3 i1x4 p3 p4c0 i7 b18 h
  ) := join_eqn (seqQ (evalE mk0 C k35x28) (seqQ (evalE mk0 C k35x26) (seqQ (evalE mk0 C k35x24) (seqQ (evalE mk0 C k35x22) (seqQ (evalE mk0 C k35x20) (seqQ (evalE mk0 C k35x18) (seqQ (evalE mk0 C k35x16) (seqQ (evalE mk0 C k35x14) (seqQ (evalE mk0 C k35x12) (seqQ (evalE mk0 C k35x10) (seqQ (evalE mk0 C k35x9) (seqQ (evalE mk0 C k35x7) (blockQ 0 (seqQ (evalE mk0 C k35x5) (seqQ (evalE mk0 C k35x3) (endQ [.tmp 2])))))))))))))))) (.any :: (.box [(.int .i64 i1x0), (.int .i64 i1x1), (.int .i64 i1x2), (.int .i64 i1x3), (.int .i64 i1x4)] :: (.any :: (.g [] true (.ptr p3) :: (.g [] true (.fn 51 [] [(.ptr p4c0)]) :: (.any :: .any :: (.g [] true (.int .i64 i7) :: (rep 10 (.g [] true (.bool b18) :: (rep 39 [])))))))))) h (J35x34xaux mk0 C i1x0 i1x1 i1x2 i1x3 i1x4 p3 p4c0 i7 b18 h)
theorem J35x33xaux (M : Mk) (C : Cal) (i1x0 : Int) (i1x1 : Int) (i1x2 : Int) (i1x3 : Int) (i1x4 : Int) (p3 : Option Ad) (p4c0 : Option Ad) (i7 : Int) (b18 : Bool) (h : Heap) : (forceK tk (.any :: (.box [(.int .i64 i1x0), (.int .i64 i1x1), (.int .i64 i1x2), (.int .i64 i1x3), (.int .i64 i1x4)] :: (.any :: (.g [] true (.ptr p3) :: (.g [] true (.fn 51 [] [(.ptr p4c0)]) :: (.any :: .any :: (.g [] true (.int .i64 i7) :: (rep 10 (.g [] true (.bool b18) :: (rep 39 [])))))))))) fun e => (seqQ (evalE M C k35x30) (seqQ (evalE M C k35x28) (seqQ (evalE M C k35x26) (seqQ (evalE M C k35x24) (seqQ (evalE M C k35x22) (seqQ (evalE M C k35x20) (seqQ (evalE M C k35x18) (seqQ (evalE M C k35x16) (seqQ (evalE M C k35x14) (seqQ (evalE M C k35x12) (seqQ (evalE M C k35x10) (seqQ (evalE M C k35x9) (seqQ (evalE M C k35x7) (blockQ 0 (seqQ (evalE M C k35x5) (seqQ (evalE M C k35x3) (endQ [.tmp 2]))))))))))))))))) .normal ⟨e, h⟩) = (
  J35x34 M C i1x0 i1x1 i1x2 i1x3 i1x4 p3 p4c0 i7 b18 h
  ) := by kernel_rfl
theorem J35x33xeq (C : Cal) (i1x0 : Int) (i1x1 : Int) (i1x2 : Int) (i1x3 : Int) (i1x4 : Int) (p3 : Option Ad) (p4c0 : Option Ad) (i7 : Int) (b18 : Bool) (h : Heap) : J35x33 mk0 C i1x0 i1x1 i1x2 i1x3 i1x4 p3 p4c0 i7 b18 h = (
  J35x34 mk0 C i1x0 i1x1 i1x2 i1x3 i1x4 p3 p4c0 i7 b18 h
  ) := join_eqn (seqQ (evalE mk0 C k35x30) (seqQ (evalE mk0 C k35x28) (seqQ (evalE mk0 C k35x26) (seqQ (evalE mk0 C k35x24) (seqQ (evalE mk0 C k35x22) (seqQ (evalE mk0 C k35x20) (seqQ (evalE mk0 C k35x18) (seqQ (evalE mk0 C k35x16) (seqQ (evalE mk0 C k35x14) (seqQ (evalE mk0 C k35x12) (seqQ (evalE mk0 C k35x10) (seqQ (evalE mk0 C k35x9) (seqQ (evalE mk0 C k35x7) (blockQ 0 (seqQ (evalE mk0 C k35x5) (seqQ (evalE mk0 C k35x3) (endQ [.tmp 2]))))))))))))))))) (.any :: (.box [(.int .i64 i1x0), (.int .i64 i1x1), (.int .i64 i1x2), (.int .i64 i1x3), (.int .i64 i1x4)] :: (.any :: (.g [] true (.ptr p3) :: (.g [] true (.fn 51 [] [(.ptr p4c0)]) :: (.any :: .any :: (.g [] true (.int .i64 i7) :: (rep 10 (.g [] true (.bool b18) :: (rep 39 [])))))))))) h (J35x33xaux mk0 C i1x0 i1x1 i1x2 i1x3 i1x4 p3 p4c0 i7 b18 h)
theorem J35x66xaux (M : Mk) (C : Cal) (p3 : Option Ad) (h : Heap) : (forceK tk (rep 3 (.g [] true (.ptr p3) :: (rep 54 []))) fun e => (seqQ (evalE M C k35x9) (seqQ (evalE M C k35x7) (blockQ 0 (seqQ (evalE M C k35x5) (seqQ (evalE M C k35x3) (endQ [.tmp 2])))))) .normal ⟨e, h⟩) = (
  J35x67 M C p3 h
  ) := by kernel_rfl
theorem J35x66xeq (C : Cal) (p3 : Option Ad) (h : Heap) : J35x66 mk0 C p3 h = (
  J35x67 mk0 C p3 h
  ) := join_eqn (seqQ (evalE mk0 C k35x9) (seqQ (evalE mk0 C k35x7) (blockQ 0 (seqQ (evalE mk0 C k35x5) (seqQ (evalE mk0 C k35x3) (endQ [.tmp 2])))))) (rep 3 (.g [] true (.ptr p3) :: (rep 54 []))) h (J35x66xaux mk0 C p3 h)
theorem J35x60xaux (M : Mk) (C : Cal) (i1x0 : Int) (i1x1 : Int) (i1x2 : Int) (i1x3 : Int) (i1x4 : Int) (p3 : Option Ad) (p4c0 : Option Ad) (i7 : Int) (b38 : Bool) (h : Heap) : (forceK tk (.any :: (.box [(.int .i64 i1x0), (.int .i64 i1x1), (.int .i64 i1x2), (.int .i64 i1x3), (.int .i64 i1x4)] :: (.any :: (.g [] true (.ptr p3) :: (.g [] true (.fn 51 [] [(.ptr p4c0)]) :: (.any :: .any :: (.g [] true (.int .i64 i7) :: (rep 30 (.g [] true (.bool b38) :: (rep 19 [])))))))))) fun e => (seqQ (evalE M C k35x45) (seqQ (evalE M C k35x44) (seqQ (evalE M C k35x9) (seqQ (evalE M C k35x7) (blockQ 0 (seqQ (evalE M C k35x5) (seqQ (evalE M C k35x3) (endQ [.tmp 2])))))))) .normal ⟨e, h⟩) = (
  if b38 = true then
    (
    newK h (.cells [(.int .i64 i1x2)] (.grow 1) 0) fun h_2 =>
    (C 51 [(.sl (.pos ⟨List.length h, 0, 0⟩) 1), (.ptr p4c0)] h_2).bind fun r49 =>
    gT 0 r49.1 true fun u49 =>
    J35x65 M C p3 r49.2
    )
  else
    (
    letK ((decide ((i7 : Int) = 14)) : Bool) fun b51 =>
    if b51 = true then
      (
      newK h (.cells [(.int .i64 i1x3)] (.grow 1) 0) fun h_2 =>
      (C 51 [(.sl (.pos ⟨List.length h, 0, 0⟩) 1), (.ptr p4c0)] h_2).bind fun r56 =>
      gT 0 r56.1 true fun u56 =>
      J35x64 M C p3 r56.2
      )
    else
      (
      J35x64 M C p3 h
      )
    )
  ) := by kernel_rfl
theorem J35x60xeq (C : Cal) (i1x0 : Int) (i1x1 : Int) (i1x2 : Int) (i1x3 : Int) (i1x4 : Int) (p3 : Option Ad) (p4c0 : Option Ad) (i7 : Int) (b38 : Bool) (h : Heap) : J35x60 mk0 C i1x0 i1x1 i1x2 i1x3 i1x4 p3 p4c0 i7 b38 h = (
  if b38 = true then
    (
    newK h (.cells [(.int .i64 i1x2)] (.grow 1) 0) fun h_2 =>
    (C 51 [(.sl (.pos ⟨List.length h, 0, 0⟩) 1), (.ptr p4c0)] h_2).bind fun r49 =>
    gT 0 r49.1 true fun u49 =>
    J35x65 mk0 C p3 r49.2
    )
  else
    (
    letK ((decide ((i7 : Int) = 14)) : Bool) fun b51 =>
    if b51 = true then
      (
      newK h (.cells [(.int .i64 i1x3)] (.grow 1) 0) fun h_2 =>
      (C 51 [(.sl (.pos ⟨List.length h, 0, 0⟩) 1), (.ptr p4c0)] h_2).bind fun r56 =>
      gT 0 r56.1 true fun u56 =>
      J35x64 mk0 C p3 r56.2
      )
    else
      (
      J35x64 mk0 C p3 h
      )
    )
  ) := join_eqn (seqQ (evalE mk0 C k35x45) (seqQ (evalE mk0 C k35x44) (seqQ (evalE mk0 C k35x9) (seqQ (evalE mk0 C k35x7) (blockQ 0 (seqQ (evalE mk0 C k35x5) (seqQ (evalE mk0 C k35x3) (endQ [.tmp 2])))))))) (.any :: (.box [(.int .i64 i1x0), (.int .i64 i1x1), (.int .i64 i1x2), (.int .i64 i1x3), (.int .i64 i1x4)] :: (.any :: (.g [] true (.ptr p3) :: (.g [] true (.fn 51 [] [(.ptr p4c0)]) :: (.any :: .any :: (.g [] true (.int .i64 i7) :: (rep 30 (.g [] true (.bool b38) :: (rep 19 [])))))))))) h (J35x60xaux mk0 C i1x0 i1x1 i1x2 i1x3 i1x4 p3 p4c0 i7 b38 h)
theorem J35x59xaux (M : Mk) (C : Cal) (i1x0 : Int) (i1x1 : Int) (i1x2 : Int) (i1x3 : Int) (i1x4 : Int) (p3 : Option Ad) (p4c0 : Option Ad) (i7 : Int) (b38 : Bool) (h : Heap) : (forceK tk (.any :: (.box [(.int .i64 i1x0), (.int .i64 i1x1), (.int .i64 i1x2), (.int .i64 i1x3), (.int .i64 i1x4)] :: (.any :: (.g [] true (.ptr p3) :: (.g [] true (.fn 51 [] [(.ptr p4c0)]) :: (.any :: .any :: (.g [] true (.int .i64 i7) :: (rep 30 (.g [] true (.bool b38) :: (rep 19 [])))))))))) fun e => (seqQ (evalE M C k35x47) (seqQ (evalE M C k35x45) (seqQ (evalE M C k35x44) (seqQ (evalE M C k35x9) (seqQ (evalE M C k35x7) (blockQ 0 (seqQ (evalE M C k35x5) (seqQ (evalE M C k35x3) (endQ [.tmp 2]))))))))) .normal ⟨e, h⟩) = (
  J35x60 M C i1x0 i1x1 i1x2 i1x3 i1x4 p3 p4c0 i7 b38 h
  ) := by kernel_rfl
theorem J35x59xeq (C : Cal) (i1x0 : Int) (i1x1 : Int) (i1x2 : Int) (i1x3 : Int) (i1x4 : Int) (p3 : Option Ad) (p4c0 : Option Ad) (i7 : Int) (b38 : Bool) (h : Heap) : J35x59 mk0 C i1x0 i1x1 i1x2 i1x3 i1x4 p3 p4c0 i7 b38 h = (
  J35x60 mk0 C i1x0 i1x1 i1x2 i1x3 i1x4 p3 p4c0 i7 b38 h
  ) := join_eqn (seqQ (evalE mk0 C k35x47) (seqQ (evalE mk0 C k35x45) (seqQ (evalE mk0 C k35x44) (seqQ (evalE mk0 C k35x9) (seqQ (evalE mk0 C k35x7) (blockQ 0 (seqQ (evalE mk0 C k35x5) (seqQ (evalE mk0 C k35x3) (endQ [.tmp 2]))))))))) (.any :: (.box [(.int .i64 i1x0), (.int .i64 i1x1), (.int .i64 i1x2), (.int .i64 i1x3), (.int .i64 i1x4)] :: (.any :: (.g [] true (.ptr p3) :: (.g [] true (.fn 51 [] [(.ptr p4c0)]) :: (.any :: .any :: (.g [] true (.int .i64 i7) :: (rep 30 (.g [] true (.bool b38) :: (rep 19 [])))))))))) h (J35x59xaux mk0 C i1x0 i1x1 i1x2 i1x3 i1x4 p3 p4c0 i7 b38 h)
theorem J35x58xaux (M : Mk) (C : Cal) (i1x0 : Int) (i1x1 : Int) (i1x2 : Int) (i1x3 : Int) (i1x4 : Int) (p3 : Option Ad) (p4c0 : Option Ad) (i7 : Int) (b38 : Bool) (h : Heap) : (forceK tk (.any :: (.box [(.int .i64 i1x0), (.int .i64 i1x1), (.int .i64 i1x2), (.int .i64 i1x3), (.int .i64 i1x4)] :: (.any :: (.g [] true (.ptr p3) :: (.g [] true (.fn 51 [] [(.ptr p4c0)]) :: (.any :: .any :: (.g [] true (.int .i64 i7) :: (rep 30 (.g [] true (.bool b38) :: (rep 19 [])))))))))) fun e => (seqQ (evalE M C k35x49) (seqQ (evalE M C k35x47) (seqQ (evalE M C k35x45) (seqQ (evalE M C k35x44) (seqQ (evalE M C k35x9) (seqQ (evalE M C k35x7) (blockQ 0 (seqQ (evalE M C k35x5) (seqQ (evalE M C k35x3) (endQ [.tmp 2])))))))))) .normal ⟨e, h⟩) = (
  J35x59 M C i1x0 i1x1 i1x2 i1x3 i1x4 p3 p4c0 i7 b38 h
  ) := by kernel_rfl
theorem J35x58xeq (C : Cal) (i1x0 : Int) (i1x1 : Int) (i1x2 : Int) (i1x3 : Int) (i1x4 : Int) (p3 : Option Ad) (p4c0 : Option Ad) (i7 : Int) (b38 : Bool) (h : Heap) : J35x58 mk0 C i1x0 i1x1 i1x2 i1x3 i1x4 p3 p4c0 i7 b38 h = (
  J35x59 mk0 C i1x0 i1x1 i1x2 i1x3 i1x4 p3 p4c0 i7 b38 h
  ) := join_eqn (seqQ (evalE mk0 C k35x49) (seqQ (evalE mk0 C k35x47) (seqQ (evalE mk0 C k35x45) (seqQ (evalE mk0 C k35x44) (seqQ (evalE mk0 C k35x9) (seqQ (evalE mk0 C k35x7) (blockQ 0 (seqQ (evalE mk0 C k35x5) (seqQ (evalE mk0 C k35x3) (endQ [.tmp 2])))))))))) (.any :: (.box [(.int .i64 i1x0), (.int .i64 i1x1), (.int .i64 i1x2), (.int .i64 i1x3), (.int .i64 i1x4)] :: (.any :: (.g [] true (.ptr p3) :: (.g [] true (.fn 51 [] [(.ptr p4c0)]) :: (.any :: .any :: (.g [] true (.int .i64 i7) :: (rep 30 (.g [] true (.bool b38) :: (rep 19 [])))))))))) h (J35x58xaux mk0 C i1x0 i1x1 i1x2 i1x3 i1x4 p3 p4c0 i7 b38 h)
theorem J35x57xaux (M : Mk) (C : Cal) (i1x0 : Int) (i1x1 : Int) (i1x2 : Int) (i1x3 : Int) (i1x4 : Int) (p3 : Option Ad) (p4c0 : Option Ad) (i7 : Int) (b38 : Bool) (h : Heap) : (forceK tk (.any :: (.box [(.int .i64 i1x0), (.int .i64 i1x1), (.int .i64 i1x2), (.int .i64 i1x3), (.int .i64 i1x4)] :: (.any :: (.g [] true (.ptr p3) :: (.g [] true (.fn 51 [] [(.ptr p4c0)]) :: (.any :: .any :: (.g [] true (.int .i64 i7) :: (rep 30 (.g [] true (.bool b38) :: (rep 19 [])))))))))) fun e => (seqQ (evalE M C k35x51) (seqQ (evalE M C k35x49) (seqQ (evalE M C k35x47) (seqQ (evalE M C k35x45) (seqQ (evalE M C k35x44) (seqQ (evalE M C k35x9) (seqQ (evalE M C k35x7) (blockQ 0 (seqQ (evalE M C k35x5) (seqQ (evalE M C k35x3) (endQ [.tmp 2]))))))))))) .normal ⟨e, h⟩) = (
  J35x58 M C i1x0 i1x1 i1x2 i1x3 i1x4 p3 p4c0 i7 b38 h
  ) := by kernel_rfl
theorem J35x57xeq (C : Cal) (i1x0 : Int) (i1x1 : Int) (i1x2 : Int) (i1x3 : Int) (i1x4 : Int) (p3 : Option Ad) (p4c0 : Option Ad) (i7 : Int) (b38 : Bool) (h : Heap) : J35x57 mk0 C i1x0 i1x1 i1x2 i1x3 i1x4 p3 p4c0 i7 b38 h = (
  J35x58 mk0 C i1x0 i1x1 i1x2 i1x3 i1x4 p3 p4c0 i7 b38 h
  ) := join_eqn (seqQ (evalE mk0 C k35x51) (seqQ (evalE mk0 C k35x49) (seqQ (evalE mk0 C k35x47) (seqQ (evalE mk0 C k35x45) (seqQ (evalE mk0 C k35x44) (seqQ (evalE mk0 C k35x9) (seqQ (evalE mk0 C k35x7) (blockQ 0 (seqQ (evalE mk0 C k35x5) (seqQ (evalE mk0 C k35x3) (endQ [.tmp 2]))))))))))) (.any :: (.box [(.int .i64 i1x0), (.int .i64 i1x1), (.int .i64 i1x2), (.int .i64 i1x3), (.int .i64 i1x4)] :: (.any :: (.g [] true (.ptr p3) :: (.g [] true (.fn 51 [] [(.ptr p4c0)]) :: (.any :: .any :: (.g [] true (.int .i64 i7) :: (rep 30 (.g [] true (.bool b38) :: (rep 19 [])))))))))) h (J35x57xaux mk0 C i1x0 i1x1 i1x2 i1x3 i1x4 p3 p4c0 i7 b38 h)
theorem J35x56xaux (M : Mk) (C : Cal) (i1x0 : Int) (i1x1 : Int) (i1x2 : Int) (i1x3 : Int) (i1x4 : Int) (p3 : Option Ad) (p4c0 : Option Ad) (i7 : Int) (b38 : Bool) (h : Heap) : (forceK tk (.any :: (.box [(.int .i64 i1x0), (.int .i64 i1x1), (.int .i64 i1x2), (.int .i64 i1x3), (.int .i64 i1x4)] :: (.any :: (.g [] true (.ptr p3) :: (.g [] true (.fn 51 [] [(.ptr p4c0)]) :: (.any :: .any :: (.g [] true (.int .i64 i7) :: (rep 30 (.g [] true (.bool b38) :: (rep 19 [])))))))))) fun e => (seqQ (evalE M C k35x53) (seqQ (evalE M C k35x51) (seqQ (evalE M C k35x49) (seqQ (evalE M C k35x47) (seqQ (evalE M C k35x45) (seqQ (evalE M C k35x44) (seqQ (evalE M C k35x9) (seqQ (evalE M C k35x7) (blockQ 0 (seqQ (evalE M C k35x5) (seqQ (evalE M C k35x3) (endQ [.tmp 2])))))))))))) .normal ⟨e, h⟩) = (
  J35x57 M C i1x0 i1x1 i1x2 i1x3 i1x4 p3 p4c0 i7 b38 h
  ) := by kernel_rfl
theorem J35x56xeq (C : Cal) (i1x0 : Int) (i1x1 : Int) (i1x2 : Int) (i1x3 : Int) (i1x4 : Int) (p3 : Option Ad) (p4c0 : Option Ad) (i7 : Int) (b38 : Bool) (h : Heap) : J35x56 mk0 C i1x0 i1x1 i1x2 i1x3 i1x4 p3 p4c0 i7 b38 h = (
  J35x57 mk0 C i1x0 i1x1 i1x2 i1x3 i1x4 p3 p4c0 i7 b38 h
  ) := join_eqn (seqQ (evalE mk0 C k35x53) (seqQ (evalE mk0 C k35x51) (seqQ (evalE mk0 C k35x49) (seqQ (evalE mk0 C k35x47) (seqQ (evalE mk0 C k35x45) (seqQ (evalE mk0 C k35x44) (seqQ (evalE mk0 C k35x9) (seqQ (evalE mk0 C k35x7) (blockQ 0 (seqQ (evalE mk0 C k35x5) (seqQ (evalE mk0 C k35x3) (endQ [.tmp 2])))))))))))) (.any :: (.box [(.int .i64 i1x0), (.int .i64 i1x1), (.int .i64 i1x2), (.int .i64 i1x3), (.int .i64 i1x4)] :: (.any :: (.g [] true (.ptr p3) :: (.g [] true (.fn 51 [] [(.ptr p4c0)]) :: (.any :: .any :: (.g [] true (.int .i64 i7) :: (rep 30 (.g [] true (.bool b38) :: (rep 19 [])))))))))) h (J35x56xaux mk0 C i1x0 i1x1 i1x2 i1x3 i1x4 p3 p4c0 i7 b38 h)
theorem J35x65xaux (M : Mk) (C : Cal) (p3 : Option Ad) (h : Heap) : (forceK tk (rep 3 (.g [] true (.ptr p3) :: (rep 54 []))) fun e => (seqQ (evalE M C k35x44) (seqQ (evalE M C k35x9) (seqQ (evalE M C k35x7) (blockQ 0 (seqQ (evalE M C k35x5) (seqQ (evalE M C k35x3) (endQ [.tmp 2]))))))) .normal ⟨e, h⟩) = (
  J35x66 M C p3 h
  ) := by kernel_rfl
theorem J35x65xeq (C : Cal) (p3 : Option Ad) (h : Heap) : J35x65 mk0 C p3 h = (
  J35x66 mk0 C p3 h
  ) := join_eqn (seqQ (evalE mk0 C k35x44) (seqQ (evalE mk0 C k35x9) (seqQ (evalE mk0 C k35x7) (blockQ 0 (seqQ (evalE mk0 C k35x5) (seqQ (evalE mk0 C k35x3) (endQ [.tmp 2]))))))) (rep 3 (.g [] true (.ptr p3) :: (rep 54 []))) h (J35x65xaux mk0 C p3 h)
theorem J35x64xaux (M : Mk) (C : Cal) (p3 : Option Ad) (h : Heap) : (forceK tk (rep 3 (.g [] true (.ptr p3) :: (rep 54 []))) fun e => (seqQ (evalE M C k35x61) (seqQ (evalE M C k35x44) (seqQ (evalE M C k35x9) (seqQ (evalE M C k35x7) (blockQ 0 (seqQ (evalE M C k35x5) (seqQ (evalE M C k35x3) (endQ [.tmp 2])))))))) .normal ⟨e, h⟩) = (
  J35x65 M C p3 h
  ) := by kernel_rfl
theorem J35x64xeq (C : Cal) (p3 : Option Ad) (h : Heap) : J35x64 mk0 C p3 h = (
  J35x65 mk0 C p3 h
  ) := join_eqn (seqQ (evalE mk0 C k35x61) (seqQ (evalE mk0 C k35x44) (seqQ (evalE mk0 C k35x9) (seqQ (evalE mk0 C k35x7) (blockQ 0 (seqQ (evalE mk0 C k35x5) (seqQ (evalE mk0 C k35x3) (endQ [.tmp 2])))))))) (rep 3 (.g [] true (.ptr p3) :: (rep 54 []))) h (J35x64xaux mk0 C p3 h)
def k43x5 : AC := .ret
def k43x4 : AC := .seq (.mask 4) k43x5
def k43x3 : AC := .mask 2
def k43x2 : AC := .seq (.cond (.tmp 26)
   (.seq (.ops false [
      ⟨(some 2), .move (.c (.int .i64 4)), none, []⟩]) k43x4)
   (.skip)) k43x3
def k43x13 : AC := .exit 0
def k43x12 : AC := .mask 805306370
def k43x20 : AC := .ret
def k43x19 : AC := .seq (.mask 4) k43x20
def k43x18 : AC := .mask 805306370
def k43x17 : AC := .seq (.cond (.tmp 33)
   (.seq (.ops false [
      ⟨(some 2), .move (.c (.int .i64 4)), none, []⟩]) k43x19)
   (.skip)) k43x18
def k43x16 : AC := .seq (.ops false [
    ⟨(some 32), .move (.tmp 4), none, []⟩,
    ⟨(some 33), .bin .other .lss (.tmp 32) (.c (.int .i64 0)), none, []⟩]) k43x17
def k43x15 : AC := .mask 805306370
def k43x14 : AC := .ops false [
    ⟨(some 34), .bin .other .add (.tmp 29) (.c (.int .i64 1)), none, []⟩,
    ⟨(some 29), .move (.tmp 34), none, []⟩]
def k43x11 : AC := .seq (.seq (.block 1 (.seq (.ops false [
     ⟨(some 31), .index 16 1 (.cell (.int .i64)) (.tmp 28) (.tmp 29), none, []⟩,
     ⟨(some 4), .move (.tmp 31), none, []⟩]) k43x16)) k43x15) k43x14
def k43x10 : AC := .seq (.seq (.cond (.tmp 30)
   (.skip)
   (.seq (.mask 2) k43x13)) k43x12) k43x11
def k43x9 : AC := .seq (.ops false [
    ⟨(some 30), .bin .other .lss (.tmp 29) (.c (.int .i64 16)), none, []⟩]) k43x10
def k43x8 : AC := .mask 2
def k43x7 : AC := .seq (.block 0 (.loop 805306370 2 k43x9)) k43x8
def k43x29 : AC := .exit 2
def k43x28 : AC := .mask 3848290697248
def k43x37 : AC := .ret
def k43x36 : AC := .seq (.mask 4) k43x37
def k43x35 : AC := .mask 3848290697344
def k43x34 : AC := .seq (.cond (.tmp 47)
   (.seq (.ops false [
      ⟨(some 2), .move (.c (.int .i64 3)), none, []⟩]) k43x36)
   (.skip)) k43x35
def k43x33 : AC := .ops false [
    ⟨(some 48), .move (.tmp 7), none, []⟩,
    ⟨(some 5), .move (.tmp 48), none, []⟩]
def k43x32 : AC := .seq (.seq (.ops false [
    ⟨(some 45), .move (.tmp 7), none, []⟩,
    ⟨(some 46), .move (.tmp 5), none, []⟩,
    ⟨(some 47), .bin .other .leq (.tmp 45) (.tmp 46), none, []⟩]) k43x34) k43x33
def k43x31 : AC := .mask 3848290697248
def k43x30 : AC := .ops false [
    ⟨(some 49), .bin .other .add (.tmp 41) (.c (.int .i64 1)), none, []⟩,
    ⟨(some 41), .move (.tmp 49), none, []⟩]
def k43x27 : AC := .seq (.seq (.block 3 (.seq (.ops false [
     ⟨(some 43), .indexAddr 1 (.tmp 39) (.tmp 41), none, []⟩,
     ⟨(some 44), .load (.cell (.int .i64)) (.tmp 43), none, []⟩,
     ⟨(some 7), .move (.tmp 44), none, []⟩]) k43x32)) k43x31) k43x30
def k43x26 : AC := .seq (.seq (.cond (.tmp 42)
   (.skip)
   (.seq (.mask 0) k43x29)) k43x28) k43x27
def k43x25 : AC := .seq (.ops false [
    ⟨(some 42), .bin .other .lss (.tmp 41) (.tmp 40), none, []⟩]) k43x26
def k43x24 : AC := .mask 0
def k43x23 : AC := .seq (.block 2 (.loop 3848290697248 0 k43x25)) k43x24
def k43x39 : AC := .ret
def k43x38 : AC := .seq (.mask 4) k43x39
def k43x22 : AC := .seq (.ops false [
    ⟨(some 2), .move (.c (.int .i64 0)), none, []⟩]) k43x38
def k43x21 : AC := .seq (.seq (.ops false [
    ⟨(some 38), .fieldAddr 19 (.tmp 1), none, []⟩,
    ⟨(some 39), .load (.cell .sl) (.tmp 38), none, []⟩,
    ⟨(some 40), .lenSl (.tmp 39), none, []⟩,
    ⟨(some 41), .move (.c (.int .i64 0)), none, []⟩]) k43x23) k43x22
def k43x6 : AC := .seq (.ops false [
    ⟨(some 35), .fieldAddr 0 (.tmp 1), none, []⟩,
    ⟨(some 36), .load (.cell (.int .i64)) (.tmp 35), none, []⟩,
    ⟨(some 37), .bin .other .sub (.tmp 36) (.c (.int .i64 1)), none, []⟩,
    ⟨(some 5), .move (.tmp 37), none, []⟩]) k43x21
def k43x1 : AC := .seq (.seq (.ops false [
    ⟨(some 27), .fieldAddr 3 (.tmp 1), none, []⟩,
    ⟨(some 28), .load (.raw 16) (.tmp 27), none, []⟩,
    ⟨(some 29), .move (.c (.int .i64 0)), none, []⟩]) k43x7) k43x6
def k43x0 : AC := .seq (.seq (.ops true [
    ⟨(some 8), .fieldAddr 0 (.tmp 1), none, []⟩,
    ⟨(some 9), .load (.cell (.int .i64)) (.tmp 8), none, []⟩,
    ⟨(some 10), .bin .other .lss (.tmp 9) (.c (.int .i64 0)), none, []⟩,
    ⟨(some 11), .move (.tmp 10), none, []⟩,
    ⟨(some 12), .fieldAddr 1 (.tmp 1), (some (11, false)), []⟩,
    ⟨(some 13), .load (.cell (.int .i64)) (.tmp 12), (some (11, false)), []⟩,
    ⟨(some 14), .bin .other .lss (.tmp 13) (.c (.int .i64 0)), (some (11, false)), []⟩,
    ⟨(some 15), .pick (.tmp 11) (.c (.bool true)) (.tmp 14), none, []⟩,
    ⟨(some 16), .move (.tmp 15), none, []⟩,
    ⟨(some 17), .fieldAddr 2 (.tmp 1), (some (16, false)), []⟩,
    ⟨(some 18), .load (.cell (.int .i64)) (.tmp 17), (some (16, false)), []⟩,
    ⟨(some 19), .bin .other .lss (.tmp 18) (.c (.int .i64 0)), (some (16, false)), []⟩,
    ⟨(some 20), .pick (.tmp 16) (.c (.bool true)) (.tmp 19), none, []⟩,
    ⟨(some 21), .move (.tmp 20), none, []⟩,
    ⟨(some 22), .fieldAddr 19 (.tmp 1), (some (21, false)), []⟩,
    ⟨(some 23), .load (.cell .sl) (.tmp 22), (some (21, false)), []⟩,
    ⟨(some 24), .lenSl (.tmp 23), (some (21, false)), []⟩,
    ⟨(some 25), .bin .other .gtr (.tmp 24) (.c (.int .i64 16384)), (some (21, false)), []⟩,
    ⟨(some 26), .pick (.tmp 21) (.c (.bool true)) (.tmp 25), none, []⟩]) k43x2) k43x1
/-- provenance/timing.Check -/
def c43 : AFn := ⟨50, [.tmp 2],
  .seq (.ops false [
    ⟨(some 1), .boxL (.tmp 0), none, []⟩,
    ⟨(some 2), .move (.c (.int .i64 0)), none, []⟩]) k43x0⟩
def S43xr (i2 : Int) (h : Heap) : St := ⟨(.any :: .any :: (.g [] true (.int .i64 i2) :: (rep 47 []))), h⟩
def S43xe0 (l1 : List AV) (h : Heap) : St := ⟨(.any :: (.box l1 :: (rep 48 []))), h⟩
def S43xe2 (h : Heap) : St := ⟨(rep 50 []), h⟩
noncomputable def Q43x9 (M : Mk) (C : Cal) : Kont (AV × Heap) := (blockQ 0 (seqQ (evalE M C k43x8) (seqQ (evalE M C k43x6) (endQ [.tmp 2]))))
noncomputable def L43x9 (l1 : List AV) (l28 : List AV) (i29 : Int) (h : Heap) (Q : Kont R) : Option R := loopE (evalE M C k43x9) 805306370 2 ⟨(.any :: (.box l1 :: (rep 26 (.g [] true (.agg l28) :: (.g [] true (.int .i64 i29) :: (rep 20 [])))))), h⟩ Q
noncomputable def Q43x25 (M : Mk) (C : Cal) : Kont (AV × Heap) := (blockQ 2 (seqQ (evalE M C k43x24) (seqQ (evalE M C k43x22) (endQ [.tmp 2]))))
noncomputable def L43x25 (i5 : Int) (s39 : SA) (n39 : Nat) (i40 : Int) (i41 : Int) (h : Heap) (Q : Kont R) : Option R := loopE (evalE M C k43x25) 3848290697248 0 ⟨(rep 5 (.g [] true (.int .i64 i5) :: (rep 33 (.g [] true (.sl s39 n39) :: (.g [] true (.int .i64 i40) :: (.g [] true (.int .i64 i41) :: (rep 8 []))))))), h⟩ Q
theorem r43 (l0 : List AV) (h : Heap) : runE M C c43 [(.agg l0)] h = (
  gI .i64 (l0[0]?) true fun i9 =>
  letK ((decide ((i9 : Int) < 0)) : Bool) fun b10 =>
  gI .i64 (l0[1]?) (!b10) fun i13 =>
  letK ((decide ((i13 : Int) < 0)) : Bool) fun b14 =>
  letK ((if b10 = true then true else b14) : Bool) fun b15 =>
  gI .i64 (l0[2]?) (!b15) fun i18 =>
  letK ((decide ((i18 : Int) < 0)) : Bool) fun b19 =>
  letK ((if b15 = true then true else b19) : Bool) fun b20 =>
  gL (l0[19]?) (!b20) fun s23 n23 =>
  letK ((decide ((16384 : Int) < ((n23 : Nat) : Int))) : Bool) fun b25 =>
  letK ((if b20 = true then true else b25) : Bool) fun b26 =>
  if b26 = true then
    (
    some ((.int .i64 4), h)
    )
  else
    (
    chk (true = true → 3 + 16 ≤ List.length l0) <|
    L43x9 M C l0 ((List.drop 3 l0).take 16) 0 h (Q43x9 M C)
    )
  ) := by kernel_rfl
theorem cf43 : cFn Try.prog 43 = some c43 := by kernel_rfl
theorem e43 (l0 : List AV) (h : Heap) : E 43 [(.agg l0)] h = (
  gI .i64 (l0[0]?) true fun i9 =>
  letK ((decide ((i9 : Int) < 0)) : Bool) fun b10 =>
  gI .i64 (l0[1]?) (!b10) fun i13 =>
  letK ((decide ((i13 : Int) < 0)) : Bool) fun b14 =>
  letK ((if b10 = true then true else b14) : Bool) fun b15 =>
  gI .i64 (l0[2]?) (!b15) fun i18 =>
  letK ((decide ((i18 : Int) < 0)) : Bool) fun b19 =>
  letK ((if b15 = true then true else b19) : Bool) fun b20 =>
  gL (l0[19]?) (!b20) fun s23 n23 =>
  letK ((decide ((16384 : Int) < ((n23 : Nat) : Int))) : Bool) fun b25 =>
  letK ((if b20 = true then true else b25) : Bool) fun b26 =>
  if b26 = true then
    (
    some ((.int .i64 4), h)
    )
  else
    (
    chk (true = true → 3 + 16 ≤ List.length l0) <|
    L43x9 mk0 E l0 ((List.drop 3 l0).take 16) 0 h (Q43x9 mk0 E)
    )
  ) := (EV_eq (P := Try.prog) (T := T0) rfl cf43 [(.agg l0)] h).trans (r43 mk0 E l0 h)
theorem L43x9xaux (l1 : List AV) (l28 : List AV) (i29 : Int) (h : Heap) (Q : Kont R) : (restrF 805306370 ⟨(.any :: (.box l1 :: (rep 26 (.g [] true (.agg l28) :: (.g [] true (.int .i64 i29) :: (rep 20 [])))))), h⟩ fun σ => evalE M C k43x9 σ (roundQ M C k43x9 805306370 2 Q)) = (
  letK ((decide ((i29 : Int) < 16)) : Bool) fun b30 =>
  if b30 = true then
    (
    chk (true = true → (0 : Int) ≤ i29 ∧ (i29 : Int) < ((16 : Nat) : Int)) <|
    gI .i64 (l28[Int.toNat i29 * 1]?) true fun i31 =>
    letK ((decide ((i31 : Int) < 0)) : Bool) fun b33 =>
    if b33 = true then
      (
      Q .ret (S43xr 4 h)
      )
    else
      (
      letK ((IntKind.wrap .i64 (i29 + 1)) : Int) fun i34 =>
      L43x9 M C l1 l28 i34 h Q
      )
    )
  else
    (
    Q (.exit 0) (S43xe0 l1 h)
    )
  ) := by kernel_rfl
theorem L43x9xeq (l1 : List AV) (l28 : List AV) (i29 : Int) (h : Heap) (Q : Kont R) : L43x9 mk0 C l1 l28 i29 h Q = (
  letK ((decide ((i29 : Int) < 16)) : Bool) fun b30 =>
  if b30 = true then
    (
    chk (true = true → (0 : Int) ≤ i29 ∧ (i29 : Int) < ((16 : Nat) : Int)) <|
    gI .i64 (l28[Int.toNat i29 * 1]?) true fun i31 =>
    letK ((decide ((i31 : Int) < 0)) : Bool) fun b33 =>
    if b33 = true then
      (
      Q .ret (S43xr 4 h)
      )
    else
      (
      letK ((IntKind.wrap .i64 (i29 + 1)) : Int) fun i34 =>
      L43x9 mk0 C l1 l28 i34 h Q
      )
    )
  else
    (
    Q (.exit 0) (S43xe0 l1 h)
    )
  ) := loop_eqn C k43x9 805306370 2 (.any :: (.box l1 :: (rep 26 (.g [] true (.agg l28) :: (.g [] true (.int .i64 i29) :: (rep 20 [])))))) h Q (by kernel_rfl) (L43x9xaux mk0 C l1 l28 i29 h Q)
theorem X43x9xr (M : Mk) (C : Cal) (i2 : Int) (h : Heap) : Q43x9 M C .ret (S43xr i2 h) = (
  some ((.int .i64 i2), h)
  ) := by kernel_rfl
theorem X43x9xe0 (M : Mk) (C : Cal) (l1 : List AV) (h : Heap) : Q43x9 M C (.exit 0) (S43xe0 l1 h) = (
  gI .i64 (l1[0]?) true fun i36 =>
  letK ((IntKind.wrap .i64 (i36 - 1)) : Int) fun i37 =>
  gL (l1[19]?) true fun s39 n39 =>
  L43x25 M C i37 s39 n39 ((n39 : Nat) : Int) 0 h (Q43x25 M C)
  ) := by kernel_rfl
theorem L43x25xaux (i5 : Int) (s39 : SA) (n39 : Nat) (i40 : Int) (i41 : Int) (h : Heap) (Q : Kont R) : (restrF 3848290697248 ⟨(rep 5 (.g [] true (.int .i64 i5) :: (rep 33 (.g [] true (.sl s39 n39) :: (.g [] true (.int .i64 i40) :: (.g [] true (.int .i64 i41) :: (rep 8 []))))))), h⟩ fun σ => evalE M C k43x25 σ (roundQ M C k43x25 3848290697248 0 Q)) = (
  letK ((decide ((i41 : Int) < i40)) : Bool) fun b42 =>
  if b42 = true then
    (
    chk (true = true → (0 : Int) ≤ i41 ∧ (i41 : Int) < ((n39 : Nat) : Int)) <|
    atP (adP s39) true fun a43 =>
    gI .i64 (ld1 h (Ad.add a43 (Int.toNat i41 * 1))) true fun i44 =>
    letK ((decide ((i44 : Int) ≤ i5)) : Bool) fun b47 =>
    if b47 = true then
      (
      Q .ret (S43xr 3 h)
      )
    else
      (
      letK ((IntKind.wrap .i64 (i41 + 1)) : Int) fun i49 =>
      L43x25 M C i44 s39 n39 i40 i49 h Q
      )
    )
  else
    (
    Q (.exit 2) (S43xe2 h)
    )
  ) := by kernel_rfl
theorem L43x25xeq (i5 : Int) (s39 : SA) (n39 : Nat) (i40 : Int) (i41 : Int) (h : Heap) (Q : Kont R) : L43x25 mk0 C i5 s39 n39 i40 i41 h Q = (
  letK ((decide ((i41 : Int) < i40)) : Bool) fun b42 =>
  if b42 = true then
    (
    chk (true = true → (0 : Int) ≤ i41 ∧ (i41 : Int) < ((n39 : Nat) : Int)) <|
    atP (adP s39) true fun a43 =>
    gI .i64 (ld1 h (Ad.add a43 (Int.toNat i41 * 1))) true fun i44 =>
    letK ((decide ((i44 : Int) ≤ i5)) : Bool) fun b47 =>
    if b47 = true then
      (
      Q .ret (S43xr 3 h)
      )
    else
      (
      letK ((IntKind.wrap .i64 (i41 + 1)) : Int) fun i49 =>
      L43x25 mk0 C i44 s39 n39 i40 i49 h Q
      )
    )
  else
    (
    Q (.exit 2) (S43xe2 h)
    )
  ) := loop_eqn C k43x25 3848290697248 0 (rep 5 (.g [] true (.int .i64 i5) :: (rep 33 (.g [] true (.sl s39 n39) :: (.g [] true (.int .i64 i40) :: (.g [] true (.int .i64 i41) :: (rep 8 []))))))) h Q (by kernel_rfl) (L43x25xaux mk0 C i5 s39 n39 i40 i41 h Q)
theorem X43x25xr (M : Mk) (C : Cal) (i2 : Int) (h : Heap) : Q43x25 M C .ret (S43xr i2 h) = (
  some ((.int .i64 i2), h)
  ) := by kernel_rfl
theorem X43x25xe2 (M : Mk) (C : Cal) (h : Heap) : Q43x25 M C (.exit 2) (S43xe2 h) = (
  some ((.int .i64 0), h)
  ) := by kernel_rfl
def k60x8 : AC := .exit 0
def k60x7 : AC := .mask 387
def k60x15 : AC := .ret
def k60x14 : AC := .seq (.mask 16) k60x15
def k60x13 : AC := .mask 387
def k60x12 : AC := .seq (.cond (.tmp 16)
   (.seq (.ops false [
      ⟨(some 17), .move (.tmp 5), none, []⟩,
      ⟨(some 4), .move (.tmp 17), none, []⟩]) k60x14)
   (.skip)) k60x13
def k60x11 : AC := .seq (.ops false [
    ⟨(some 11), .move (.tmp 1), none, []⟩,
    ⟨(some 12), .move (.tmp 0), none, []⟩,
    ⟨(some 13), .move (.tmp 5), none, []⟩,
    ⟨(some 14), .indexAddr 1 (.tmp 12) (.tmp 13), none, []⟩,
    ⟨(some 15), .load (.cell (.int .i64)) (.tmp 14), none, []⟩,
    ⟨(some 16), .bin .other .eql (.tmp 11) (.tmp 15), none, []⟩]) k60x12
def k60x10 : AC := .mask 387
def k60x9 : AC := .ops false [
    ⟨(some 18), .bin .other .add (.tmp 8) (.c (.int .i64 1)), none, []⟩,
    ⟨(some 8), .move (.tmp 18), none, []⟩]
def k60x6 : AC := .seq (.seq (.block 1 (.seq (.ops false [
     ⟨(some 10), .move (.tmp 8), none, []⟩,
     ⟨(some 5), .move (.tmp 10), none, []⟩]) k60x11)) k60x10) k60x9
def k60x5 : AC := .seq (.seq (.cond (.tmp 9)
   (.skip)
   (.seq (.mask 0) k60x8)) k60x7) k60x6
def k60x4 : AC := .seq (.ops false [
    ⟨(some 9), .bin .other .lss (.tmp 8) (.tmp 7), none, []⟩]) k60x5
def k60x3 : AC := .mask 0
def k60x2 : AC := .seq (.block 0 (.loop 387 0 k60x4)) k60x3
def k60x17 : AC := .ret
def k60x16 : AC := .seq (.mask 16) k60x17
def k60x1 : AC := .seq (.ops false [
    ⟨(some 4), .move (.c (.int .i64 (-1))), none, []⟩]) k60x16
def k60x0 : AC := .seq (.seq (.ops false [
    ⟨(some 6), .move (.tmp 0), none, []⟩,
    ⟨(some 7), .lenSl (.tmp 6), none, []⟩,
    ⟨(some 8), .move (.c (.int .i64 0)), none, []⟩]) k60x2) k60x1
/-- slices.Index[[]int,int] -/
def c60 : AFn := ⟨19, [.tmp 4],
  .seq (.ops false [
    ⟨(some 4), .move (.c (.int .i64 0)), none, []⟩]) k60x0⟩
def S60xr (i4 : Int) (h : Heap) : St := ⟨(rep 4 (.g [] true (.int .i64 i4) :: (rep 14 []))), h⟩
def S60xe0 (h : Heap) : St := ⟨(rep 19 []), h⟩
noncomputable def Q60x4 (M : Mk) (C : Cal) : Kont (AV × Heap) := (blockQ 0 (seqQ (evalE M C k60x3) (seqQ (evalE M C k60x1) (endQ [.tmp 4]))))
noncomputable def L60x4 (s0 : SA) (n0 : Nat) (i1 : Int) (i7 : Int) (i8 : Int) (h : Heap) (Q : Kont R) : Option R := loopE (evalE M C k60x4) 387 0 ⟨(.g [] true (.sl s0 n0) :: (.g [] true (.int .i64 i1) :: (rep 5 (.g [] true (.int .i64 i7) :: (.g [] true (.int .i64 i8) :: (rep 10 [])))))), h⟩ Q
theorem r60 (s0 : SA) (n0 : Nat) (i1 : Int) (h : Heap) : runE M C c60 [(.sl s0 n0), (.int .i64 i1)] h = (
  L60x4 M C s0 n0 i1 ((n0 : Nat) : Int) 0 h (Q60x4 M C)
  ) := by kernel_rfl
theorem cf60 : cFn Try.prog 60 = some c60 := by kernel_rfl
theorem e60 (s0 : SA) (n0 : Nat) (i1 : Int) (h : Heap) : E 60 [(.sl s0 n0), (.int .i64 i1)] h = (
  L60x4 mk0 E s0 n0 i1 ((n0 : Nat) : Int) 0 h (Q60x4 mk0 E)
  ) := (EV_eq (P := Try.prog) (T := T0) rfl cf60 [(.sl s0 n0), (.int .i64 i1)] h).trans (r60 mk0 E s0 n0 i1 h)
theorem L60x4xaux (s0 : SA) (n0 : Nat) (i1 : Int) (i7 : Int) (i8 : Int) (h : Heap) (Q : Kont R) : (restrF 387 ⟨(.g [] true (.sl s0 n0) :: (.g [] true (.int .i64 i1) :: (rep 5 (.g [] true (.int .i64 i7) :: (.g [] true (.int .i64 i8) :: (rep 10 [])))))), h⟩ fun σ => evalE M C k60x4 σ (roundQ M C k60x4 387 0 Q)) = (
  letK ((decide ((i8 : Int) < i7)) : Bool) fun b9 =>
  if b9 = true then
    (
    chk (true = true → (0 : Int) ≤ i8 ∧ (i8 : Int) < ((n0 : Nat) : Int)) <|
    atP (adP s0) true fun a14 =>
    gI .i64 (ld1 h (Ad.add a14 (Int.toNat i8 * 1))) true fun i15 =>
    letK ((decide ((i1 : Int) = i15)) : Bool) fun b16 =>
    if b16 = true then
      (
      Q .ret (S60xr i8 h)
      )
    else
      (
      letK ((IntKind.wrap .i64 (i8 + 1)) : Int) fun i18 =>
      L60x4 M C s0 n0 i1 i7 i18 h Q
      )
    )
  else
    (
    Q (.exit 0) (S60xe0 h)
    )
  ) := by kernel_rfl
theorem L60x4xeq (s0 : SA) (n0 : Nat) (i1 : Int) (i7 : Int) (i8 : Int) (h : Heap) (Q : Kont R) : L60x4 mk0 C s0 n0 i1 i7 i8 h Q = (
  letK ((decide ((i8 : Int) < i7)) : Bool) fun b9 =>
  if b9 = true then
    (
    chk (true = true → (0 : Int) ≤ i8 ∧ (i8 : Int) < ((n0 : Nat) : Int)) <|
    atP (adP s0) true fun a14 =>
    gI .i64 (ld1 h (Ad.add a14 (Int.toNat i8 * 1))) true fun i15 =>
    letK ((decide ((i1 : Int) = i15)) : Bool) fun b16 =>
    if b16 = true then
      (
      Q .ret (S60xr i8 h)
      )
    else
      (
      letK ((IntKind.wrap .i64 (i8 + 1)) : Int) fun i18 =>
      L60x4 mk0 C s0 n0 i1 i7 i18 h Q
      )
    )
  else
    (
    Q (.exit 0) (S60xe0 h)
    )
  ) := loop_eqn C k60x4 387 0 (.g [] true (.sl s0 n0) :: (.g [] true (.int .i64 i1) :: (rep 5 (.g [] true (.int .i64 i7) :: (.g [] true (.int .i64 i8) :: (rep 10 [])))))) h Q (by kernel_rfl) (L60x4xaux mk0 C s0 n0 i1 i7 i8 h Q)
theorem X60x4xr (M : Mk) (C : Cal) (i4 : Int) (h : Heap) : Q60x4 M C .ret (S60xr i4 h) = (
  some ((.int .i64 i4), h)
  ) := by kernel_rfl
theorem X60x4xe0 (M : Mk) (C : Cal) (h : Heap) : Q60x4 M C (.exit 0) (S60xe0 h) = (
  some ((.int .i64 (-1)), h)
  ) := by kernel_rfl
def k55x2 : AC := .ret
def k55x1 : AC := .seq (.mask 16) k55x2
def k55x0 : AC := .seq (.ops false [
    ⟨(some 5), .move (.tmp 0), none, []⟩,
    ⟨(some 6), .move (.tmp 1), none, []⟩,
    ⟨(some 7), .call 60 [(.tmp 5), (.tmp 6)] [(.cell (.int .i64))] (.int .i64 0), none, []⟩,
    ⟨(some 8), .bin .other .geq (.tmp 7) (.c (.int .i64 0)), none, []⟩,
    ⟨(some 4), .move (.tmp 8), none, []⟩]) k55x1
/-- slices.Contains[[]int,int] -/
def c55 : AFn := ⟨9, [.tmp 4],
  .seq (.ops false [
    ⟨(some 4), .move (.c (.bool false)), none, []⟩]) k55x0⟩
theorem r55 (s0 : SA) (n0 : Nat) (i1 : Int) (h : Heap) : runE M C c55 [(.sl s0 n0), (.int .i64 i1)] h = (
  (C 60 [(.sl s0 n0), (.int .i64 i1)] h).bind fun r7 =>
  gI .i64 (some r7.1) true fun i7 =>
  letK ((decide ((0 : Int) ≤ i7)) : Bool) fun b8 =>
  some ((.bool b8), r7.2)
  ) := by kernel_rfl
theorem cf55 : cFn Try.prog 55 = some c55 := by kernel_rfl
theorem e55 (s0 : SA) (n0 : Nat) (i1 : Int) (h : Heap) : E 55 [(.sl s0 n0), (.int .i64 i1)] h = (
  (E 60 [(.sl s0 n0), (.int .i64 i1)] h).bind fun r7 =>
  gI .i64 (some r7.1) true fun i7 =>
  letK ((decide ((0 : Int) ≤ i7)) : Bool) fun b8 =>
  some ((.bool b8), r7.2)
  ) := (EV_eq (P := Try.prog) (T := T0) rfl cf55 [(.sl s0 n0), (.int .i64 i1)] h).trans (r55 mk0 E s0 n0 i1 h)
def k45x9 : AC := .exit 0
def k45x8 : AC := .mask 114844
def k45x12 : AC := .ops false [
    ⟨(some 20), .move (.tmp 7), none, []⟩,
    ⟨(some 21), .move (.tmp 9), none, []⟩,
    ⟨(some 22), .fieldAddr 3 (.tmp 3), none, []⟩,
    ⟨(some 23), .indexArr 16 1 (.tmp 22) (.tmp 21), none, []⟩,
    ⟨(some 24), .load (.cell (.int .i64)) (.tmp 23), none, []⟩,
    ⟨(some 25), .mm true [(.tmp 20), (.tmp 24)], none, []⟩,
    ⟨(some 7), .move (.tmp 25), none, []⟩]
def k45x11 : AC := .mask 114844
def k45x10 : AC := .ops false [
    ⟨(some 26), .bin .other .add (.tmp 16) (.c (.int .i64 1)), none, []⟩,
    ⟨(some 16), .move (.tmp 26), none, []⟩]
def k45x7 : AC := .seq (.seq (.block 1 (.seq (.ops false [
     ⟨(some 18), .indexAddr 1 (.tmp 14) (.tmp 16), none, []⟩,
     ⟨(some 19), .load (.cell (.int .i64)) (.tmp 18), none, []⟩,
     ⟨(some 9), .move (.tmp 19), none, []⟩]) k45x12)) k45x11) k45x10
def k45x6 : AC := .seq (.seq (.cond (.tmp 17)
   (.skip)
   (.seq (.mask 156) k45x9)) k45x8) k45x7
def k45x5 : AC := .seq (.ops false [
    ⟨(some 17), .bin .other .lss (.tmp 16) (.tmp 15), none, []⟩]) k45x6
def k45x4 : AC := .mask 156
def k45x3 : AC := .seq (.block 0 (.loop 114844 156 k45x5)) k45x4
def k45x15 : AC := .join 156
def k45x14 : AC := .seq (.cond (.tmp 29)
   (.ops false [
      ⟨(some 30), .move (.tmp 7), none, []⟩,
      ⟨(some 31), .fieldAddr 1 (.tmp 3), none, []⟩,
      ⟨(some 32), .load (.cell (.int .i64)) (.tmp 31), none, []⟩,
      ⟨(some 33), .mm true [(.tmp 30), (.tmp 32)], none, []⟩,
      ⟨(some 7), .move (.tmp 33), none, []⟩])
   (.skip)) k45x15
def k45x27 : AC := .exit 2
def k45x26 : AC := .mask 140
def k45x25 : AC := .seq (.cond (.tmp 52)
   (.skip)
   (.seq (.mask 128) k45x27)) k45x26
def k45x28 : AC := .mask 140
def k45x24 : AC := .seq (.block 3 (.ops false [
     ⟨(some 53), .move (.tmp 7), none, []⟩,
     ⟨(some 54), .bin .other .add (.tmp 53) (.c (.int .i64 1)), none, []⟩,
     ⟨(some 7), .move (.tmp 54), none, []⟩])) k45x28
def k45x23 : AC := .seq (.seq (.ops false [
    ⟨(some 47), .fieldAddr 19 (.tmp 3), none, []⟩,
    ⟨(some 48), .load (.cell .sl) (.tmp 47), none, []⟩,
    ⟨(some 49), .move (.tmp 7), none, []⟩,
    ⟨(some 50), .move (.tmp 2), none, []⟩,
    ⟨(some 51), .bin .other .add (.tmp 49) (.tmp 50), none, []⟩,
    ⟨(some 52), .call 55 [(.tmp 48), (.tmp 51)] [(.cell .bool)] (.bool false), none, []⟩]) k45x25) k45x24
def k45x22 : AC := .mask 128
def k45x21 : AC := .seq (.block 2 (.loop 140 128 k45x23)) k45x22
def k45x20 : AC := .join 128
def k45x19 : AC := .seq (.cond (.tmp 37)
   (.seq (.ops false [
      ⟨(some 38), .move (.tmp 7), none, []⟩,
      ⟨(some 39), .move (.tmp 10), none, []⟩,
      ⟨(some 40), .fieldAddr 3 (.tmp 3), none, []⟩,
      ⟨(some 41), .indexArr 16 1 (.tmp 40) (.tmp 39), none, []⟩,
      ⟨(some 42), .load (.cell (.int .i64)) (.tmp 41), none, []⟩,
      ⟨(some 43), .bin .other .add (.tmp 42) (.c (.int .i64 1)), none, []⟩,
      ⟨(some 44), .move (.tmp 2), none, []⟩,
      ⟨(some 45), .bin .other .sub (.tmp 43) (.tmp 44), none, []⟩,
      ⟨(some 46), .mm true [(.tmp 38), (.tmp 45)], none, []⟩,
      ⟨(some 7), .move (.tmp 46), none, []⟩]) k45x21)
   (.skip)) k45x20
def k45x18 : AC := .seq (.ops false [
    ⟨(some 36), .move (.tmp 10), none, []⟩,
    ⟨(some 37), .bin .other .neq (.tmp 36) (.c (.int .i64 0)), none, []⟩]) k45x19
def k45x31 : AC := .ret
def k45x30 : AC := .seq (.mask 64) k45x31
def k45x17 : AC := .seq (.ops false [
    ⟨(some 55), .move (.tmp 7), none, []⟩,
    ⟨(some 6), .move (.tmp 55), none, []⟩]) k45x30
def k45x13 : AC := .seq (.seq (.ops false [
    ⟨(some 34), .load (.agg [(.int .i64), (.int .i64), (.int .i64), (.int .i64), (.int .i64)]) (.tmp 4), none, []⟩,
    ⟨(some 35), .call 34 [(.tmp 34)] [(.cell (.int .i64))] (.int .i64 0), none, []⟩,
    ⟨(some 10), .move (.tmp 35), none, []⟩]) k45x18) k45x17
def k45x2 : AC := .seq (.seq (.ops false [
    ⟨(some 27), .fieldAddr 0 (.tmp 4), none, []⟩,
    ⟨(some 28), .load (.cell (.int .i64)) (.tmp 27), none, []⟩,
    ⟨(some 29), .call 46 [(.tmp 28)] [(.cell .bool)] (.bool false), none, []⟩]) k45x14) k45x13
def k45x1 : AC := .seq (.seq (.ops false [
    ⟨(some 13), .load (.agg [(.int .i64), (.int .i64), (.int .i64), (.int .i64), (.int .i64)]) (.tmp 4), none, []⟩,
    ⟨(some 14), .call 35 [(.tmp 13)] [(.cell .sl)] (.sl .nil 0), none, []⟩,
    ⟨(some 15), .lenSl (.tmp 14), none, []⟩,
    ⟨(some 16), .move (.c (.int .i64 0)), none, []⟩]) k45x3) k45x2
def k45x0 : AC := .seq (.ops false [
    ⟨(some 11), .fieldAddr 0 (.tmp 3), none, []⟩,
    ⟨(some 12), .load (.cell (.int .i64)) (.tmp 11), none, []⟩,
    ⟨(some 7), .move (.tmp 12), none, []⟩]) k45x1
/-- provenance/timing.start -/
def c45 : AFn := ⟨56, [.tmp 6],
  .seq (.ops false [
    ⟨(some 3), .boxL (.tmp 0), none, []⟩,
    ⟨(some 4), .boxL (.tmp 1), none, []⟩,
    ⟨(some 6), .move (.c (.int .i64 0)), none, []⟩]) k45x0⟩
def S45xe0 (i2 : Int) (l3 : List AV) (i4x0 : Int) (i4x1 : Int) (i4x2 : Int) (i4x3 : Int) (i4x4 : Int) (i7 : Int) (h : Heap) : St := ⟨(.any :: .any :: (.g [] true (.int .i64 i2) :: (.box l3 :: (.box [(.int .i64 i4x0), (.int .i64 i4x1), (.int .i64 i4x2), (.int .i64 i4x3), (.int .i64 i4x4)] :: (.any :: .any :: (.g [] true (.int .i64 i7) :: (rep 48 []))))))), h⟩
def S45xe2 (i7 : Int) (h : Heap) : St := ⟨(rep 7 (.g [] true (.int .i64 i7) :: (rep 48 []))), h⟩
noncomputable def Q45x5 (M : Mk) (C : Cal) : Kont (AV × Heap) := (blockQ 0 (seqQ (evalE M C k45x4) (seqQ (evalE M C k45x2) (endQ [.tmp 6]))))
noncomputable def L45x5 (i2 : Int) (l3 : List AV) (i4x0 : Int) (i4x1 : Int) (i4x2 : Int) (i4x3 : Int) (i4x4 : Int) (i7 : Int) (s14 : SA) (n14 : Nat) (i15 : Int) (i16 : Int) (h : Heap) (Q : Kont R) : Option R := loopE (evalE M C k45x5) 114844 156 ⟨(.any :: .any :: (.g [] true (.int .i64 i2) :: (.box l3 :: (.box [(.int .i64 i4x0), (.int .i64 i4x1), (.int .i64 i4x2), (.int .i64 i4x3), (.int .i64 i4x4)] :: (.any :: .any :: (.g [] true (.int .i64 i7) :: (rep 6 (.g [] true (.sl s14 n14) :: (.g [] true (.int .i64 i15) :: (.g [] true (.int .i64 i16) :: (rep 39 []))))))))))), h⟩ Q
noncomputable def J45x16 (M : Mk) (C : Cal) (i2 : Int) (l3 : List AV) (i4x0 : Int) (i4x1 : Int) (i4x2 : Int) (i4x3 : Int) (i4x4 : Int) (i7 : Int) (h : Heap) : Res := M (AV × Heap) (seqQ (evalE M C k45x13) (endQ [.tmp 6])) (.any :: .any :: (.g [] true (.int .i64 i2) :: (.box l3 :: (.box [(.int .i64 i4x0), (.int .i64 i4x1), (.int .i64 i4x2), (.int .i64 i4x3), (.int .i64 i4x4)] :: (.any :: .any :: (.g [] true (.int .i64 i7) :: (rep 48 []))))))) h
noncomputable def Q45x23 (M : Mk) (C : Cal) : Kont (AV × Heap) := (blockQ 2 (seqQ (evalE M C k45x22) (seqQ (evalE M C k45x20) (seqQ (evalE M C k45x17) (endQ [.tmp 6])))))
noncomputable def L45x23 (i2 : Int) (l3 : List AV) (i7 : Int) (h : Heap) (Q : Kont R) : Option R := loopE (evalE M C k45x23) 140 128 ⟨(.any :: .any :: (.g [] true (.int .i64 i2) :: (.box l3 :: (rep 3 (.g [] true (.int .i64 i7) :: (rep 48 [])))))), h⟩ Q
noncomputable def J45x29 (M : Mk) (C : Cal) (i7 : Int) (h : Heap) : Res := M (AV × Heap) (seqQ (evalE M C k45x17) (endQ [.tmp 6])) (rep 7 (.g [] true (.int .i64 i7) :: (rep 48 []))) h
theorem r45 (l0 : List AV) (i1x0 : Int) (i1x1 : Int) (i1x2 : Int) (i1x3 : Int) (i1x4 : Int) (i2 : Int) (h : Heap) : runE M C c45 [(.agg l0), (.agg [(.int .i64 i1x0), (.int .i64 i1x1), (.int .i64 i1x2), (.int .i64 i1x3), (.int .i64 i1x4)]), (.int .i64 i2)] h = (
  gI .i64 (l0[0]?) true fun i12 =>
  (C 35 [(.agg [(.int .i64 i1x0), (.int .i64 i1x1), (.int .i64 i1x2), (.int .i64 i1x3), (.int .i64 i1x4)])] h).bind fun r14 =>
  gL (some r14.1) true fun s14 n14 =>
  L45x5 M C i2 l0 i1x0 i1x1 i1x2 i1x3 i1x4 i12 s14 n14 ((n14 : Nat) : Int) 0 r14.2 (Q45x5 M C)
  ) := by kernel_rfl
theorem cf45 : cFn Try.prog 45 = some c45 := by kernel_rfl
theorem e45 (l0 : List AV) (i1x0 : Int) (i1x1 : Int) (i1x2 : Int) (i1x3 : Int) (i1x4 : Int) (i2 : Int) (h : Heap) : E 45 [(.agg l0), (.agg [(.int .i64 i1x0), (.int .i64 i1x1), (.int .i64 i1x2), (.int .i64 i1x3), (.int .i64 i1x4)]), (.int .i64 i2)] h = (
  gI .i64 (l0[0]?) true fun i12 =>
  (E 35 [(.agg [(.int .i64 i1x0), (.int .i64 i1x1), (.int .i64 i1x2), (.int .i64 i1x3), (.int .i64 i1x4)])] h).bind fun r14 =>
  gL (some r14.1) true fun s14 n14 =>
  L45x5 mk0 E i2 l0 i1x0 i1x1 i1x2 i1x3 i1x4 i12 s14 n14 ((n14 : Nat) : Int) 0 r14.2 (Q45x5 mk0 E)
  ) := (EV_eq (P := Try.prog) (T := T0) rfl cf45 [(.agg l0), (.agg [(.int .i64 i1x0), (.int .i64 i1x1), (.int .i64 i1x2), (.int .i64 i1x3), (.int .i64 i1x4)]), (.int .i64 i2)] h).trans (r45 mk0 E l0 i1x0 i1x1 i1x2 i1x3 i1x4 i2 h)
theorem L45x5xaux (i2 : Int) (l3 : List AV) (i4x0 : Int) (i4x1 : Int) (i4x2 : Int) (i4x3 : Int) (i4x4 : Int) (i7 : Int) (s14 : SA) (n14 : Nat) (i15 : Int) (i16 : Int) (h : Heap) (Q : Kont R) : (restrF 114844 ⟨(.any :: .any :: (.g [] true (.int .i64 i2) :: (.box l3 :: (.box [(.int .i64 i4x0), (.int .i64 i4x1), (.int .i64 i4x2), (.int .i64 i4x3), (.int .i64 i4x4)] :: (.any :: .any :: (.g [] true (.int .i64 i7) :: (rep 6 (.g [] true (.sl s14 n14) :: (.g [] true (.int .i64 i15) :: (.g [] true (.int .i64 i16) :: (rep 39 []))))))))))), h⟩ fun σ => evalE M C k45x5 σ (roundQ M C k45x5 114844 156 Q)) = (
  letK ((decide ((i16 : Int) < i15)) : Bool) fun b17 =>
  if b17 = true then
    (
    chk (true = true → (0 : Int) ≤ i16 ∧ (i16 : Int) < ((n14 : Nat) : Int)) <|
    atP (adP s14) true fun a18 =>
    gI .i64 (ld1 h (Ad.add a18 (Int.toNat i16 * 1))) true fun i19 =>
    chk (true = true → (0 : Int) ≤ i19 ∧ (i19 : Int) < ((16 : Nat) : Int)) <|
    gI .i64 (l3[(3 + Int.toNat i19 * 1)]?) true fun i24 =>
    letK ((foldMM true i7 [i24]) : Int) fun i25 =>
    letK ((IntKind.wrap .i64 (i16 + 1)) : Int) fun i26 =>
    L45x5 M C i2 l3 i4x0 i4x1 i4x2 i4x3 i4x4 i25 s14 n14 i15 i26 h Q
    )
  else
    (
    Q (.exit 0) (S45xe0 i2 l3 i4x0 i4x1 i4x2 i4x3 i4x4 i7 h)
    )
  ) := by kernel_rfl
theorem L45x5xeq (i2 : Int) (l3 : List AV) (i4x0 : Int) (i4x1 : Int) (i4x2 : Int) (i4x3 : Int) (i4x4 : Int) (i7 : Int) (s14 : SA) (n14 : Nat) (i15 : Int) (i16 : Int) (h : Heap) (Q : Kont R) : L45x5 mk0 C i2 l3 i4x0 i4x1 i4x2 i4x3 i4x4 i7 s14 n14 i15 i16 h Q = (
  letK ((decide ((i16 : Int) < i15)) : Bool) fun b17 =>
  if b17 = true then
    (
    chk (true = true → (0 : Int) ≤ i16 ∧ (i16 : Int) < ((n14 : Nat) : Int)) <|
    atP (adP s14) true fun a18 =>
    gI .i64 (ld1 h (Ad.add a18 (Int.toNat i16 * 1))) true fun i19 =>
    chk (true = true → (0 : Int) ≤ i19 ∧ (i19 : Int) < ((16 : Nat) : Int)) <|
    gI .i64 (l3[(3 + Int.toNat i19 * 1)]?) true fun i24 =>
    letK ((foldMM true i7 [i24]) : Int) fun i25 =>
    letK ((IntKind.wrap .i64 (i16 + 1)) : Int) fun i26 =>
    L45x5 mk0 C i2 l3 i4x0 i4x1 i4x2 i4x3 i4x4 i25 s14 n14 i15 i26 h Q
    )
  else
    (
    Q (.exit 0) (S45xe0 i2 l3 i4x0 i4x1 i4x2 i4x3 i4x4 i7 h)
    )
  ) := loop_eqn C k45x5 114844 156 (.any :: .any :: (.g [] true (.int .i64 i2) :: (.box l3 :: (.box [(.int .i64 i4x0), (.int .i64 i4x1), (.int .i64 i4x2), (.int .i64 i4x3), (.int .i64 i4x4)] :: (.any :: .any :: (.g [] true (.int .i64 i7) :: (rep 6 (.g [] true (.sl s14 n14) :: (.g [] true (.int .i64 i15) :: (.g [] true (.int .i64 i16) :: (rep 39 []))))))))))) h Q (by kernel_rfl) (L45x5xaux mk0 C i2 l3 i4x0 i4x1 i4x2 i4x3 i4x4 i7 s14 n14 i15 i16 h Q)
theorem X45x5xe0 (M : Mk) (C : Cal) (i2 : Int) (l3 : List AV) (i4x0 : Int) (i4x1 : Int) (i4x2 : Int) (i4x3 : Int) (i4x4 : Int) (i7 : Int) (h : Heap) : Q45x5 M C (.exit 0) (S45xe0 i2 l3 i4x0 i4x1 i4x2 i4x3 i4x4 i7 h) = (
  (C 46 [(.int .i64 i4x0)] h).bind fun r29 =>
  gB (some r29.1) true fun b29 =>
  if b29 = true then
    (
    gI .i64 (l3[1]?) true fun i32 =>
    letK ((foldMM true i7 [i32]) : Int) fun i33 =>
    J45x16 M C i2 l3 i4x0 i4x1 i4x2 i4x3 i4x4 i33 r29.2
    )
  else
    (
    J45x16 M C i2 l3 i4x0 i4x1 i4x2 i4x3 i4x4 i7 r29.2
    )
  ) := by kernel_rfl
theorem J45x16xaux (M : Mk) (C : Cal) (i2 : Int) (l3 : List AV) (i4x0 : Int) (i4x1 : Int) (i4x2 : Int) (i4x3 : Int) (i4x4 : Int) (i7 : Int) (h : Heap) : (forceK tk (.any :: .any :: (.g [] true (.int .i64 i2) :: (.box l3 :: (.box [(.int .i64 i4x0), (.int .i64 i4x1), (.int .i64 i4x2), (.int .i64 i4x3), (.int .i64 i4x4)] :: (.any :: .any :: (.g [] true (.int .i64 i7) :: (rep 48 []))))))) fun e => (seqQ (evalE M C k45x13) (endQ [.tmp 6])) .normal ⟨e, h⟩) = (
  (C 34 [(.agg [(.int .i64 i4x0), (.int .i64 i4x1), (.int .i64 i4x2), (.int .i64 i4x3), (.int .i64 i4x4)])] h).bind fun r35 =>
  gI .i64 (some r35.1) true fun i35 =>
  letK ((!decide ((i35 : Int) = 0)) : Bool) fun b37 =>
  if b37 = true then
    (
    chk (true = true → (0 : Int) ≤ i35 ∧ (i35 : Int) < ((16 : Nat) : Int)) <|
    gI .i64 (l3[(3 + Int.toNat i35 * 1)]?) true fun i42 =>
    letK ((IntKind.wrap .i64 (i42 + 1)) : Int) fun i43 =>
    letK ((IntKind.wrap .i64 (i43 - i2)) : Int) fun i45 =>
    letK ((foldMM true i7 [i45]) : Int) fun i46 =>
    L45x23 M C i2 l3 i46 r35.2 (Q45x23 M C)
    )
  else
    (
    J45x29 M C i7 r35.2
    )
  ) := by kernel_rfl
theorem J45x16xeq (C : Cal) (i2 : Int) (l3 : List AV) (i4x0 : Int) (i4x1 : Int) (i4x2 : Int) (i4x3 : Int) (i4x4 : Int) (i7 : Int) (h : Heap) : J45x16 mk0 C i2 l3 i4x0 i4x1 i4x2 i4x3 i4x4 i7 h = (
  (C 34 [(.agg [(.int .i64 i4x0), (.int .i64 i4x1), (.int .i64 i4x2), (.int .i64 i4x3), (.int .i64 i4x4)])] h).bind fun r35 =>
  gI .i64 (some r35.1) true fun i35 =>
  letK ((!decide ((i35 : Int) = 0)) : Bool) fun b37 =>
  if b37 = true then
    (
    chk (true = true → (0 : Int) ≤ i35 ∧ (i35 : Int) < ((16 : Nat) : Int)) <|
    gI .i64 (l3[(3 + Int.toNat i35 * 1)]?) true fun i42 =>
    letK ((IntKind.wrap .i64 (i42 + 1)) : Int) fun i43 =>
    letK ((IntKind.wrap .i64 (i43 - i2)) : Int) fun i45 =>
    letK ((foldMM true i7 [i45]) : Int) fun i46 =>
    L45x23 mk0 C i2 l3 i46 r35.2 (Q45x23 mk0 C)
    )
  else
    (
    J45x29 mk0 C i7 r35.2
    )
  ) := join_eqn (seqQ (evalE mk0 C k45x13) (endQ [.tmp 6])) (.any :: .any :: (.g [] true (.int .i64 i2) :: (.box l3 :: (.box [(.int .i64 i4x0), (.int .i64 i4x1), (.int .i64 i4x2), (.int .i64 i4x3), (.int .i64 i4x4)] :: (.any :: .any :: (.g [] true (.int .i64 i7) :: (rep 48 []))))))) h (J45x16xaux mk0 C i2 l3 i4x0 i4x1 i4x2 i4x3 i4x4 i7 h)
theorem L45x23xaux (i2 : Int) (l3 : List AV) (i7 : Int) (h : Heap) (Q : Kont R) : (restrF 140 ⟨(.any :: .any :: (.g [] true (.int .i64 i2) :: (.box l3 :: (rep 3 (.g [] true (.int .i64 i7) :: (rep 48 [])))))), h⟩ fun σ => evalE M C k45x23 σ (roundQ M C k45x23 140 128 Q)) = (
  gL (l3[19]?) true fun s48 n48 =>
  letK ((IntKind.wrap .i64 (i7 + i2)) : Int) fun i51 =>
  (C 55 [(.sl s48 n48), (.int .i64 i51)] h).bind fun r52 =>
  gB (some r52.1) true fun b52 =>
  if b52 = true then
    (
    letK ((IntKind.wrap .i64 (i7 + 1)) : Int) fun i54 =>
    L45x23 M C i2 l3 i54 r52.2 Q
    )
  else
    (
    Q (.exit 2) (S45xe2 i7 r52.2)
    )
  ) := by kernel_rfl
theorem L45x23xeq (i2 : Int) (l3 : List AV) (i7 : Int) (h : Heap) (Q : Kont R) : L45x23 mk0 C i2 l3 i7 h Q = (
  gL (l3[19]?) true fun s48 n48 =>
  letK ((IntKind.wrap .i64 (i7 + i2)) : Int) fun i51 =>
  (C 55 [(.sl s48 n48), (.int .i64 i51)] h).bind fun r52 =>
  gB (some r52.1) true fun b52 =>
  if b52 = true then
    (
    letK ((IntKind.wrap .i64 (i7 + 1)) : Int) fun i54 =>
    L45x23 mk0 C i2 l3 i54 r52.2 Q
    )
  else
    (
    Q (.exit 2) (S45xe2 i7 r52.2)
    )
  ) := loop_eqn C k45x23 140 128 (.any :: .any :: (.g [] true (.int .i64 i2) :: (.box l3 :: (rep 3 (.g [] true (.int .i64 i7) :: (rep 48 [])))))) h Q (by kernel_rfl) (L45x23xaux mk0 C i2 l3 i7 h Q)
theorem J45x29xaux (M : Mk) (C : Cal) (i7 : Int) (h : Heap) : (forceK tk (rep 7 (.g [] true (.int .i64 i7) :: (rep 48 []))) fun e => (seqQ (evalE M C k45x17) (endQ [.tmp 6])) .normal ⟨e, h⟩) = (
  some ((.int .i64 i7), h)
  ) := by kernel_rfl
theorem J45x29xeq (C : Cal) (i7 : Int) (h : Heap) : J45x29 mk0 C i7 h = (
  some ((.int .i64 i7), h)
  ) := join_eqn (seqQ (evalE mk0 C k45x17) (endQ [.tmp 6])) (rep 7 (.g [] true (.int .i64 i7) :: (rep 48 []))) h (J45x29xaux mk0 C i7 h)
theorem X45x23xe2 (M : Mk) (C : Cal) (i7 : Int) (h : Heap) : Q45x23 M C (.exit 2) (S45xe2 i7 h) = (
  J45x29 M C i7 h
  ) := by kernel_rfl
def k61x2 : AC := .ret
def k61x1 : AC := .seq (.mask 4) k61x2
def k61x0 : AC := .seq (.ops false [
    ⟨(some 3), .move (.tmp 0), none, []⟩,
    ⟨(some 4), .move (.tmp 0), none, []⟩,
    ⟨(some 5), .bin .other .neq (.tmp 3) (.tmp 4), none, []⟩,
    ⟨(some 2), .move (.tmp 5), none, []⟩]) k61x1
/-- cmp.isNaN[int] -/
def c61 : AFn := ⟨6, [.tmp 2],
  .seq (.ops false [
    ⟨(some 2), .move (.c (.bool false)), none, []⟩]) k61x0⟩
theorem r61 (i0 : Int) (h : Heap) : runE M C c61 [(.int .i64 i0)] h = (
  letK ((!decide ((i0 : Int) = i0)) : Bool) fun b5 =>
  some ((.bool b5), h)
  ) := by kernel_rfl
theorem cf61 : cFn Try.prog 61 = some c61 := by kernel_rfl
theorem e61 (i0 : Int) (h : Heap) : E 61 [(.int .i64 i0)] h = (
  letK ((!decide ((i0 : Int) = i0)) : Bool) fun b5 =>
  some ((.bool b5), h)
  ) := (EV_eq (P := Try.prog) (T := T0) rfl cf61 [(.int .i64 i0)] h).trans (r61 mk0 E i0 h)
def k57x2 : AC := .ret
def k57x1 : AC := .seq (.mask 4) k57x2
def k57x0 : AC := .seq (.ops false [
    ⟨(some 3), .move (.tmp 0), none, []⟩,
    ⟨(some 4), .move (.tmp 0), none, []⟩,
    ⟨(some 5), .bin .other .neq (.tmp 3) (.tmp 4), none, []⟩,
    ⟨(some 2), .move (.tmp 5), none, []⟩]) k57x1
/-- slices.isNaN[int] -/
def c57 : AFn := ⟨6, [.tmp 2],
  .seq (.ops false [
    ⟨(some 2), .move (.c (.bool false)), none, []⟩]) k57x0⟩
theorem r57 (i0 : Int) (h : Heap) : runE M C c57 [(.int .i64 i0)] h = (
  letK ((!decide ((i0 : Int) = i0)) : Bool) fun b5 =>
  some ((.bool b5), h)
  ) := by kernel_rfl
theorem cf57 : cFn Try.prog 57 = some c57 := by kernel_rfl
theorem e57 (i0 : Int) (h : Heap) : E 57 [(.int .i64 i0)] h = (
  letK ((!decide ((i0 : Int) = i0)) : Bool) fun b5 =>
  some ((.bool b5), h)
  ) := (EV_eq (P := Try.prog) (T := T0) rfl cf57 [(.int .i64 i0)] h).trans (r57 mk0 E i0 h)
def k56x2 : AC := .ret
def k56x1 : AC := .seq (.mask 16) k56x2
def k56x0 : AC := .seq (.ops true [
    ⟨(some 5), .move (.tmp 0), none, []⟩,
    ⟨(some 6), .call 61 [(.tmp 5)] [(.cell .bool)] (.bool false), none, []⟩,
    ⟨(some 7), .move (.tmp 6), none, []⟩,
    ⟨(some 8), .move (.tmp 1), (some (7, true)), []⟩,
    ⟨(some 9), .call 61 [(.tmp 8)] [(.cell .bool)] (.bool false), (some (7, true)), []⟩,
    ⟨(some 10), .un .not (.tmp 9), (some (7, true)), []⟩,
    ⟨(some 11), .pick (.tmp 7) (.tmp 10) (.c (.bool false)), none, []⟩,
    ⟨(some 12), .move (.tmp 11), none, []⟩,
    ⟨(some 13), .move (.tmp 0), (some (12, false)), []⟩,
    ⟨(some 14), .move (.tmp 1), (some (12, false)), []⟩,
    ⟨(some 15), .bin .other .lss (.tmp 13) (.tmp 14), (some (12, false)), []⟩,
    ⟨(some 16), .pick (.tmp 12) (.c (.bool true)) (.tmp 15), none, []⟩,
    ⟨(some 4), .move (.tmp 16), none, []⟩]) k56x1
/-- cmp.Less[int] -/
def c56 : AFn := ⟨17, [.tmp 4],
  .seq (.ops false [
    ⟨(some 4), .move (.c (.bool false)), none, []⟩]) k56x0⟩
theorem r56 (i0 : Int) (i1 : Int) (h : Heap) : runE M C c56 [(.int .i64 i0), (.int .i64 i1)] h = (
  (C 61 [(.int .i64 i0)] h).bind fun r6 =>
  gB (some r6.1) true fun b6 =>
  (callO b6 (C 61 [(.int .i64 i1)] r6.2) (.bool false) r6.2).bind fun r9 =>
  gB (some r9.1) b6 fun b9 =>
  letK ((if b6 = true then (!b9) else false) : Bool) fun b11 =>
  letK ((decide ((i0 : Int) < i1)) : Bool) fun b15 =>
  letK ((if b11 = true then true else b15) : Bool) fun b16 =>
  some ((.bool b16), r9.2)
  ) := by kernel_rfl
theorem cf56 : cFn Try.prog 56 = some c56 := by kernel_rfl
theorem e56 (i0 : Int) (i1 : Int) (h : Heap) : E 56 [(.int .i64 i0), (.int .i64 i1)] h = (
  (E 61 [(.int .i64 i0)] h).bind fun r6 =>
  gB (some r6.1) true fun b6 =>
  (callO b6 (E 61 [(.int .i64 i1)] r6.2) (.bool false) r6.2).bind fun r9 =>
  gB (some r9.1) b6 fun b9 =>
  letK ((if b6 = true then (!b9) else false) : Bool) fun b11 =>
  letK ((decide ((i0 : Int) < i1)) : Bool) fun b15 =>
  letK ((if b11 = true then true else b15) : Bool) fun b16 =>
  some ((.bool b16), r9.2)
  ) := (EV_eq (P := Try.prog) (T := T0) rfl cf56 [(.int .i64 i0), (.int .i64 i1)] h).trans (r56 mk0 E i0 i1 h)
def k47x9 : AC := .exit 0
def k47x8 : AC := .mask 451
def k47x7 : AC := .seq (.cond (.tmp 15)
   (.skip)
   (.seq (.mask 195) k47x9)) k47x8
def k47x13 : AC := .join 451
def k47x12 : AC := .seq (.cond (.tmp 27)
   (.ops false [
      ⟨(some 28), .move (.tmp 9), none, []⟩,
      ⟨(some 29), .bin .other .add (.tmp 28) (.c (.int .i64 1)), none, []⟩,
      ⟨(some 7), .move (.tmp 29), none, []⟩])
   (.ops false [
      ⟨(some 30), .move (.tmp 9), none, []⟩,
      ⟨(some 8), .move (.tmp 30), none, []⟩])) k47x13
def k47x11 : AC := .seq (.ops false [
    ⟨(some 22), .move (.tmp 0), none, []⟩,
    ⟨(some 23), .move (.tmp 9), none, []⟩,
    ⟨(some 24), .indexAddr 1 (.tmp 22) (.tmp 23), none, []⟩,
    ⟨(some 25), .load (.cell (.int .i64)) (.tmp 24), none, []⟩,
    ⟨(some 26), .move (.tmp 1), none, []⟩,
    ⟨(some 27), .call 56 [(.tmp 25), (.tmp 26)] [(.cell .bool)] (.bool false), none, []⟩]) k47x12
def k47x10 : AC := .mask 451
def k47x6 : AC := .seq (.block 1 (.seq (.ops false [
     ⟨(some 16), .move (.tmp 7), none, []⟩,
     ⟨(some 17), .move (.tmp 8), none, []⟩,
     ⟨(some 18), .bin .other .add (.tmp 16) (.tmp 17), none, []⟩,
     ⟨(some 19), .conv .u64 (.tmp 18), none, []⟩,
     ⟨(some 20), .bin .other .shr (.tmp 19) (.c (.int .u64 1)), none, []⟩,
     ⟨(some 21), .conv .i64 (.tmp 20), none, []⟩,
     ⟨(some 9), .move (.tmp 21), none, []⟩]) k47x11)) k47x10
def k47x5 : AC := .seq (.seq (.ops false [
    ⟨(some 13), .move (.tmp 7), none, []⟩,
    ⟨(some 14), .move (.tmp 8), none, []⟩,
    ⟨(some 15), .bin .other .lss (.tmp 13) (.tmp 14), none, []⟩]) k47x7) k47x6
def k47x4 : AC := .mask 195
def k47x16 : AC := .ret
def k47x15 : AC := .seq (.mask 48) k47x16
def k47x3 : AC := .seq (.ops true [
    ⟨(some 31), .move (.tmp 7), none, []⟩,
    ⟨(some 32), .move (.tmp 7), none, []⟩,
    ⟨(some 33), .move (.tmp 6), none, []⟩,
    ⟨(some 34), .bin .other .lss (.tmp 32) (.tmp 33), none, []⟩,
    ⟨(some 35), .move (.tmp 34), none, []⟩,
    ⟨(some 36), .move (.tmp 0), (some (35, true)), []⟩,
    ⟨(some 37), .move (.tmp 7), (some (35, true)), []⟩,
    ⟨(some 38), .indexAddr 1 (.tmp 36) (.tmp 37), (some (35, true)), []⟩,
    ⟨(some 39), .load (.cell (.int .i64)) (.tmp 38), (some (35, true)), []⟩,
    ⟨(some 40), .move (.tmp 1), (some (35, true)), []⟩,
    ⟨(some 41), .bin .other .eql (.tmp 39) (.tmp 40), (some (35, true)), []⟩,
    ⟨(some 42), .move (.tmp 41), (some (35, true)), []⟩,
    ⟨(some 43), .move (.tmp 0), (some (42, false)), []⟩,
    ⟨(some 44), .move (.tmp 7), (some (42, false)), []⟩,
    ⟨(some 45), .indexAddr 1 (.tmp 43) (.tmp 44), (some (42, false)), []⟩,
    ⟨(some 46), .load (.cell (.int .i64)) (.tmp 45), (some (42, false)), []⟩,
    ⟨(some 47), .call 57 [(.tmp 46)] [(.cell .bool)] (.bool false), (some (42, false)), []⟩,
    ⟨(some 48), .move (.tmp 47), (some (42, false)), []⟩,
    ⟨(some 49), .move (.tmp 1), (some (48, true)), []⟩,
    ⟨(some 50), .call 57 [(.tmp 49)] [(.cell .bool)] (.bool false), (some (48, true)), []⟩,
    ⟨(some 51), .pick (.tmp 48) (.tmp 50) (.c (.bool false)), (some (42, false)), []⟩,
    ⟨(some 52), .pick (.tmp 42) (.c (.bool true)) (.tmp 51), (some (35, true)), []⟩,
    ⟨(some 53), .pick (.tmp 35) (.tmp 52) (.c (.bool false)), none, []⟩,
    ⟨(some 4), .move (.tmp 31), none, []⟩,
    ⟨(some 5), .move (.tmp 53), none, []⟩]) k47x15
def k47x2 : AC := .seq (.seq (.block 0 (.loop 451 195 k47x5)) k47x4) k47x3
def k47x1 : AC := .seq (.ops false [
    ⟨(some 12), .move (.tmp 6), none, []⟩,
    ⟨(some 7), .move (.c (.int .i64 0)), none, []⟩,
    ⟨(some 8), .move (.tmp 12), none, []⟩]) k47x2
def k47x0 : AC := .seq (.ops false [
    ⟨(some 10), .move (.tmp 0), none, []⟩,
    ⟨(some 11), .lenSl (.tmp 10), none, []⟩,
    ⟨(some 6), .move (.tmp 11), none, []⟩]) k47x1
/-- slices.BinarySearch[[]int,int] -/
def c47 : AFn := ⟨54, [.tmp 4, .tmp 5],
  .seq (.ops false [
    ⟨(some 4), .move (.c (.int .i64 0)), none, []⟩,
    ⟨(some 5), .move (.c (.bool false)), none, []⟩]) k47x0⟩
def S47xe0 (s0 : SA) (n0 : Nat) (i1 : Int) (i6 : Int) (i7 : Int) (h : Heap) : St := ⟨(.g [] true (.sl s0 n0) :: (.g [] true (.int .i64 i1) :: (rep 4 (.g [] true (.int .i64 i6) :: (.g [] true (.int .i64 i7) :: (rep 46 [])))))), h⟩
noncomputable def Q47x5 (M : Mk) (C : Cal) : Kont (AV × Heap) := (blockQ 0 (seqQ (evalE M C k47x4) (seqQ (evalE M C k47x3) (endQ [.tmp 4, .tmp 5]))))
noncomputable def L47x5 (s0 : SA) (n0 : Nat) (i1 : Int) (i6 : Int) (i7 : Int) (i8 : Int) (h : Heap) (Q : Kont R) : Option R := loopE (evalE M C k47x5) 451 195 ⟨(.g [] true (.sl s0 n0) :: (.g [] true (.int .i64 i1) :: (rep 4 (.g [] true (.int .i64 i6) :: (.g [] true (.int .i64 i7) :: (.g [] true (.int .i64 i8) :: (rep 45 []))))))), h⟩ Q
noncomputable def J47x14 (M : Mk) (C : Cal) (s0 : SA) (n0 : Nat) (i1 : Int) (i6 : Int) (i7 : Int) (i8 : Int) (h : Heap) (Q : Kont R) : Option R := M R (blockQ 1 (seqQ (evalE M C k47x10) (roundQ M C k47x5 451 195 Q))) (.g [] true (.sl s0 n0) :: (.g [] true (.int .i64 i1) :: (rep 4 (.g [] true (.int .i64 i6) :: (.g [] true (.int .i64 i7) :: (.g [] true (.int .i64 i8) :: (rep 45 []))))))) h
theorem r47 (s0 : SA) (n0 : Nat) (i1 : Int) (h : Heap) : runE M C c47 [(.sl s0 n0), (.int .i64 i1)] h = (
  L47x5 M C s0 n0 i1 ((n0 : Nat) : Int) 0 ((n0 : Nat) : Int) h (Q47x5 M C)
  ) := by kernel_rfl
theorem cf47 : cFn Try.prog 47 = some c47 := by kernel_rfl
theorem e47 (s0 : SA) (n0 : Nat) (i1 : Int) (h : Heap) : E 47 [(.sl s0 n0), (.int .i64 i1)] h = (
  L47x5 mk0 E s0 n0 i1 ((n0 : Nat) : Int) 0 ((n0 : Nat) : Int) h (Q47x5 mk0 E)
  ) := (EV_eq (P := Try.prog) (T := T0) rfl cf47 [(.sl s0 n0), (.int .i64 i1)] h).trans (r47 mk0 E s0 n0 i1 h)
theorem L47x5xaux (s0 : SA) (n0 : Nat) (i1 : Int) (i6 : Int) (i7 : Int) (i8 : Int) (h : Heap) (Q : Kont R) : (restrF 451 ⟨(.g [] true (.sl s0 n0) :: (.g [] true (.int .i64 i1) :: (rep 4 (.g [] true (.int .i64 i6) :: (.g [] true (.int .i64 i7) :: (.g [] true (.int .i64 i8) :: (rep 45 []))))))), h⟩ fun σ => evalE M C k47x5 σ (roundQ M C k47x5 451 195 Q)) = (
  letK ((decide ((i7 : Int) < i8)) : Bool) fun b15 =>
  if b15 = true then
    (
    letK ((IntKind.wrap .i64 (i7 + i8)) : Int) fun i18 =>
    letK ((IntKind.wrap .u64 i18) : Int) fun i19 =>
    letK ((Int.fdiv i19 (2 ^ 1)) : Int) fun i20 =>
    letK ((IntKind.wrap .i64 i20) : Int) fun i21 =>
    chk (true = true → (0 : Int) ≤ i21 ∧ (i21 : Int) < ((n0 : Nat) : Int)) <|
    atP (adP s0) true fun a24 =>
    gI .i64 (ld1 h (Ad.add a24 (Int.toNat i21 * 1))) true fun i25 =>
    (C 56 [(.int .i64 i25), (.int .i64 i1)] h).bind fun r27 =>
    gB (some r27.1) true fun b27 =>
    if b27 = true then
      (
      letK ((IntKind.wrap .i64 (i21 + 1)) : Int) fun i29 =>
      J47x14 M C s0 n0 i1 i6 i29 i8 r27.2 Q
      )
    else
      (
      J47x14 M C s0 n0 i1 i6 i7 i21 r27.2 Q
      )
    )
  else
    (
    Q (.exit 0) (S47xe0 s0 n0 i1 i6 i7 h)
    )
  ) := by kernel_rfl
theorem L47x5xeq (s0 : SA) (n0 : Nat) (i1 : Int) (i6 : Int) (i7 : Int) (i8 : Int) (h : Heap) (Q : Kont R) : L47x5 mk0 C s0 n0 i1 i6 i7 i8 h Q = (
  letK ((decide ((i7 : Int) < i8)) : Bool) fun b15 =>
  if b15 = true then
    (
    letK ((IntKind.wrap .i64 (i7 + i8)) : Int) fun i18 =>
    letK ((IntKind.wrap .u64 i18) : Int) fun i19 =>
    letK ((Int.fdiv i19 (2 ^ 1)) : Int) fun i20 =>
    letK ((IntKind.wrap .i64 i20) : Int) fun i21 =>
    chk (true = true → (0 : Int) ≤ i21 ∧ (i21 : Int) < ((n0 : Nat) : Int)) <|
    atP (adP s0) true fun a24 =>
    gI .i64 (ld1 h (Ad.add a24 (Int.toNat i21 * 1))) true fun i25 =>
    (C 56 [(.int .i64 i25), (.int .i64 i1)] h).bind fun r27 =>
    gB (some r27.1) true fun b27 =>
    if b27 = true then
      (
      letK ((IntKind.wrap .i64 (i21 + 1)) : Int) fun i29 =>
      J47x14 mk0 C s0 n0 i1 i6 i29 i8 r27.2 Q
      )
    else
      (
      J47x14 mk0 C s0 n0 i1 i6 i7 i21 r27.2 Q
      )
    )
  else
    (
    Q (.exit 0) (S47xe0 s0 n0 i1 i6 i7 h)
    )
  ) := loop_eqn C k47x5 451 195 (.g [] true (.sl s0 n0) :: (.g [] true (.int .i64 i1) :: (rep 4 (.g [] true (.int .i64 i6) :: (.g [] true (.int .i64 i7) :: (.g [] true (.int .i64 i8) :: (rep 45 []))))))) h Q (by kernel_rfl) (L47x5xaux mk0 C s0 n0 i1 i6 i7 i8 h Q)
theorem J47x14xaux (M : Mk) (C : Cal) (s0 : SA) (n0 : Nat) (i1 : Int) (i6 : Int) (i7 : Int) (i8 : Int) (h : Heap) (Q : Kont R) : (forceK tk (.g [] true (.sl s0 n0) :: (.g [] true (.int .i64 i1) :: (rep 4 (.g [] true (.int .i64 i6) :: (.g [] true (.int .i64 i7) :: (.g [] true (.int .i64 i8) :: (rep 45 []))))))) fun e => (blockQ 1 (seqQ (evalE M C k47x10) (roundQ M C k47x5 451 195 Q))) .normal ⟨e, h⟩) = (
  L47x5 M C s0 n0 i1 i6 i7 i8 h Q
  ) := by kernel_rfl
theorem J47x14xeq (C : Cal) (s0 : SA) (n0 : Nat) (i1 : Int) (i6 : Int) (i7 : Int) (i8 : Int) (h : Heap) (Q : Kont R) : J47x14 mk0 C s0 n0 i1 i6 i7 i8 h Q = (
  L47x5 mk0 C s0 n0 i1 i6 i7 i8 h Q
  ) := join_eqn (blockQ 1 (seqQ (evalE mk0 C k47x10) (roundQ mk0 C k47x5 451 195 Q))) (.g [] true (.sl s0 n0) :: (.g [] true (.int .i64 i1) :: (rep 4 (.g [] true (.int .i64 i6) :: (.g [] true (.int .i64 i7) :: (.g [] true (.int .i64 i8) :: (rep 45 []))))))) h (J47x14xaux mk0 C s0 n0 i1 i6 i7 i8 h Q)
theorem X47x5xe0 (M : Mk) (C : Cal) (s0 : SA) (n0 : Nat) (i1 : Int) (i6 : Int) (i7 : Int) (h : Heap) : Q47x5 M C (.exit 0) (S47xe0 s0 n0 i1 i6 i7 h) = (
  letK ((decide ((i7 : Int) < i6)) : Bool) fun b34 =>
  chk (b34 = true → (0 : Int) ≤ i7 ∧ (i7 : Int) < ((n0 : Nat) : Int)) <|
  atP (adP s0) b34 fun a38 =>
  atP (some (Ad.add a38 (Int.toNat i7 * 1))) b34 fun a39 =>
  gI .i64 (ld1 h a39) b34 fun i39 =>
  letK ((decide ((i39 : Int) = i1)) : Bool) fun b41 =>
  chk ((andB b34 (!b41)) = true → (0 : Int) ≤ i7 ∧ (i7 : Int) < ((n0 : Nat) : Int)) <|
  atP (adP s0) (andB b34 (!b41)) fun a45 =>
  atP (some (Ad.add a45 (Int.toNat i7 * 1))) (andB b34 (!b41)) fun a46 =>
  gI .i64 (ld1 h a46) (andB b34 (!b41)) fun i46 =>
  (callO (andB b34 (!b41)) (C 57 [(.int .i64 i46)] h) (.bool false) h).bind fun r47 =>
  gB (some r47.1) (andB b34 (!b41)) fun b47 =>
  (callO (andB (andB b34 (!b41)) b47) (C 57 [(.int .i64 i1)] r47.2) (.bool false) r47.2).bind fun r50 =>
  gB (some r50.1) (andB (andB b34 (!b41)) b47) fun b50 =>
  letK ((if b47 = true then b50 else false) : Bool) fun b51 =>
  letK ((if b41 = true then true else b51) : Bool) fun b52 =>
  letK ((if b34 = true then b52 else false) : Bool) fun b53 =>
  some (.tup [(.int .i64 i7), (.bool b53)], r50.2)
  ) := by kernel_rfl
def k30x6 : AC := .ret
def k30x5 : AC := .seq (.mask 448) k30x6
def k30x4 : AC := .mask 92
def k30x3 : AC := .seq (.cond (.tmp 23)
   (.seq (.ops false [
      ⟨(some 24), .build [(.int .i64 0), (.int .i64 0), (.int .i64 0), (.int .i64 0), (.int .i64 0), (.int .i64 0), (.int .i64 0), (.int .i64 0), (.int .i64 0), (.int .i64 0), (.int .i64 0), (.int .i64 0), (.int .i64 0), (.int .i64 0), (.int .i64 0), (.int .i64 0), (.int .i64 0), (.int .i64 0), (.int .i64 0), (.sl .nil 0)] [], none, []⟩,
      ⟨(some 25), .move (.tmp 9), none, []⟩,
      ⟨none, .store 20 (.tmp 6) (.tmp 24), none, []⟩,
      ⟨(some 7), .move (.c (.int .i64 0)), none, []⟩,
      ⟨(some 8), .move (.tmp 25), none, []⟩]) k30x5)
   (.skip)) k30x4
def k30x2 : AC := .seq (.ops false [
    ⟨(some 22), .move (.tmp 9), none, []⟩,
    ⟨(some 23), .bin .other .neq (.tmp 22) (.c (.int .i64 0)), none, []⟩]) k30x3
def k30x12 : AC := .ret
def k30x11 : AC := .seq (.mask 448) k30x12
def k30x10 : AC := .mask 92
def k30x9 : AC := .seq (.cond (.tmp 29)
   (.seq (.ops false [
      ⟨(some 30), .build [(.int .i64 0), (.int .i64 0), (.int .i64 0), (.int .i64 0), (.int .i64 0), (.int .i64 0), (.int .i64 0), (.int .i64 0), (.int .i64 0), (.int .i64 0), (.int .i64 0), (.int .i64 0), (.int .i64 0), (.int .i64 0), (.int .i64 0), (.int .i64 0), (.int .i64 0), (.int .i64 0), (.int .i64 0), (.sl .nil 0)] [], none, []⟩,
      ⟨(some 31), .move (.tmp 10), none, []⟩,
      ⟨none, .store 20 (.tmp 6) (.tmp 30), none, []⟩,
      ⟨(some 7), .move (.c (.int .i64 0)), none, []⟩,
      ⟨(some 8), .move (.tmp 31), none, []⟩]) k30x11)
   (.skip)) k30x10
def k30x8 : AC := .seq (.ops false [
    ⟨(some 28), .move (.tmp 10), none, []⟩,
    ⟨(some 29), .bin .other .neq (.tmp 28) (.c (.int .i64 0)), none, []⟩]) k30x9
def k30x17 : AC := .ret
def k30x16 : AC := .seq (.mask 448) k30x17
def k30x15 : AC := .mask 92
def k30x14 : AC := .seq (.cond (.tmp 37)
   (.seq (.ops false [
      ⟨(some 38), .build [(.int .i64 0), (.int .i64 0), (.int .i64 0), (.int .i64 0), (.int .i64 0), (.int .i64 0), (.int .i64 0), (.int .i64 0), (.int .i64 0), (.int .i64 0), (.int .i64 0), (.int .i64 0), (.int .i64 0), (.int .i64 0), (.int .i64 0), (.int .i64 0), (.int .i64 0), (.int .i64 0), (.int .i64 0), (.sl .nil 0)] [], none, []⟩,
      ⟨none, .store 20 (.tmp 6) (.tmp 38), none, []⟩,
      ⟨(some 7), .move (.c (.int .i64 0)), none, []⟩,
      ⟨(some 8), .move (.c (.int .i64 1)), none, []⟩]) k30x16)
   (.skip)) k30x15
def k30x25 : AC := .join 12376
def k30x24 : AC := .seq (.cond (.tmp 63)
   (.ops false [
      ⟨(some 64), .move (.tmp 13), none, []⟩,
      ⟨(some 65), .fieldAddr 1 (.tmp 3), none, []⟩,
      ⟨none, .store 1 (.tmp 65) (.tmp 64), none, []⟩])
   (.skip)) k30x25
def k30x35 : AC := .exit 0
def k30x34 : AC := .mask 1033017668127734919256
def k30x40 : AC := .join 1033017668127734919256
def k30x39 : AC := .seq (.cond (.tmp 76)
   (.ops false [
      ⟨(some 77), .move (.tmp 14), none, []⟩,
      ⟨(some 78), .move (.tmp 16), none, []⟩,
      ⟨(some 79), .buildSl [(.int .i64 0)] 1 [(0, (.tmp 78))], none, []⟩,
      ⟨(some 80), .append [(.int .i64 0)] 1 8 (.tmp 77) (.tmp 79), none, []⟩,
      ⟨(some 14), .move (.tmp 80), none, []⟩])
   (.skip)) k30x40
def k30x38 : AC := .seq (.ops false [
    ⟨(some 73), .move (.tmp 16), none, []⟩,
    ⟨(some 74), .fieldAddr 0 (.tmp 3), none, []⟩,
    ⟨(some 75), .load (.cell (.int .i64)) (.tmp 74), none, []⟩,
    ⟨(some 76), .bin .other .geq (.tmp 73) (.tmp 75), none, []⟩]) k30x39
def k30x37 : AC := .mask 1033017668127734919256
def k30x36 : AC := .ops false [
    ⟨(some 81), .bin .other .add (.tmp 69) (.c (.int .i64 1)), none, []⟩,
    ⟨(some 69), .move (.tmp 81), none, []⟩]
def k30x33 : AC := .seq (.seq (.block 1 (.seq (.ops false [
     ⟨(some 71), .indexAddr 1 (.tmp 67) (.tmp 69), none, []⟩,
     ⟨(some 72), .load (.cell (.int .i64)) (.tmp 71), none, []⟩,
     ⟨(some 16), .move (.tmp 72), none, []⟩]) k30x38)) k30x37) k30x36
def k30x32 : AC := .seq (.seq (.cond (.tmp 70)
   (.skip)
   (.seq (.mask 28760) k30x35)) k30x34) k30x33
def k30x31 : AC := .seq (.ops false [
    ⟨(some 70), .bin .other .lss (.tmp 69) (.tmp 68), none, []⟩]) k30x32
def k30x30 : AC := .mask 28760
def k30x29 : AC := .seq (.block 0 (.loop 1033017668127734919256 28760 k30x31)) k30x30
def k30x49 : AC := .ops false [
    ⟨(some 100), .move (.tmp 14), none, []⟩,
    ⟨(some 101), .move (.tmp 18), none, []⟩,
    ⟨(some 102), .move (.tmp 13), none, []⟩,
    ⟨(some 103), .buildSl [(.int .i64 0)] 1 [(0, (.tmp 102))], none, []⟩,
    ⟨(some 104), .call 48 [(.tmp 100), (.tmp 101), (.tmp 103)] [(.cell .sl)] (.sl .nil 0), none, []⟩,
    ⟨(some 14), .move (.tmp 104), none, []⟩]
def k30x48 : AC := .join 20552
def k30x47 : AC := .seq (.cond (.tmp 93)
   (.seq (.ops false [
      ⟨(some 95), .move (.tmp 14), none, []⟩,
      ⟨(some 96), .move (.tmp 13), none, []⟩,
      ⟨(some 97), .call 47 [(.tmp 95), (.tmp 96)] [(.cell (.int .i64)), (.cell .bool)] .opq, none, []⟩,
      ⟨(some 94), .move (.tmp 97), none, []⟩,
      ⟨(some 98), .extract (.tmp 94) 0, none, []⟩,
      ⟨(some 99), .extract (.tmp 94) 1, none, []⟩,
      ⟨(some 18), .move (.tmp 98), none, []⟩,
      ⟨(some 19), .move (.tmp 99), none, []⟩]) k30x49)
   (.skip)) k30x48
def k30x46 : AC := .seq (.ops false [
    ⟨(some 90), .move (.tmp 13), none, []⟩,
    ⟨(some 91), .fieldAddr 0 (.tmp 3), none, []⟩,
    ⟨(some 92), .load (.cell (.int .i64)) (.tmp 91), none, []⟩,
    ⟨(some 93), .bin .other .geq (.tmp 90) (.tmp 92), none, []⟩]) k30x47
def k30x45 : AC := .join 20552
def k30x44 : AC := .seq (.cond (.tmp 85)
   (.seq (.ops false [
      ⟨(some 86), .move (.tmp 17), none, []⟩,
      ⟨(some 87), .move (.tmp 13), none, []⟩,
      ⟨(some 88), .fieldAddr 3 (.tmp 3), none, []⟩,
      ⟨(some 89), .indexArr 16 1 (.tmp 88) (.tmp 86), none, []⟩,
      ⟨none, .store 1 (.tmp 89) (.tmp 87), none, []⟩]) k30x46)
   (.skip)) k30x45
def k30x43 : AC := .seq (.ops false [
    ⟨(some 84), .move (.tmp 17), none, []⟩,
    ⟨(some 85), .bin .other .neq (.tmp 84) (.c (.int .i64 0)), none, []⟩]) k30x44
def k30x54 : AC := .ret
def k30x53 : AC := .seq (.mask 448) k30x54
def k30x52 : AC := .seq (.ops false [
    ⟨(some 107), .load (.raw 20) (.tmp 3), none, []⟩,
    ⟨(some 108), .move (.tmp 12), none, []⟩,
    ⟨none, .store 20 (.tmp 6) (.tmp 107), none, []⟩,
    ⟨(some 7), .move (.tmp 108), none, []⟩,
    ⟨(some 8), .move (.c (.int .i64 0)), none, []⟩]) k30x53
def k30x42 : AC := .seq (.ops false [
    ⟨(some 105), .move (.tmp 14), none, []⟩,
    ⟨(some 106), .fieldAddr 19 (.tmp 3), none, []⟩,
    ⟨none, .store 1 (.tmp 106) (.tmp 105), none, []⟩]) k30x52
def k30x28 : AC := .seq (.seq (.ops false [
    ⟨(some 82), .load (.agg [(.int .i64), (.int .i64), (.int .i64), (.int .i64), (.int .i64)]) (.tmp 4), none, []⟩,
    ⟨(some 83), .call 34 [(.tmp 82)] [(.cell (.int .i64))] (.int .i64 0), none, []⟩,
    ⟨(some 17), .move (.tmp 83), none, []⟩]) k30x43) k30x42
def k30x27 : AC := .seq (.seq (.ops false [
    ⟨(some 66), .fieldAddr 19 (.tmp 3), none, []⟩,
    ⟨(some 67), .load (.cell .sl) (.tmp 66), none, []⟩,
    ⟨(some 68), .lenSl (.tmp 67), none, []⟩,
    ⟨(some 69), .move (.c (.int .i64 0)), none, []⟩]) k30x29) k30x28
def k30x23 : AC := .seq (.ops false [
    ⟨(some 14), .move (.c (.sl .nil 0)), none, []⟩]) k30x27
def k30x22 : AC := .seq (.seq (.ops false [
    ⟨(some 61), .fieldAddr 0 (.tmp 4), none, []⟩,
    ⟨(some 62), .load (.cell (.int .i64)) (.tmp 61), none, []⟩,
    ⟨(some 63), .call 46 [(.tmp 62)] [(.cell .bool)] (.bool false), none, []⟩]) k30x24) k30x23
def k30x21 : AC := .seq (.ops false [
    ⟨(some 56), .fieldAddr 2 (.tmp 3), none, []⟩,
    ⟨(some 57), .load (.cell (.int .i64)) (.tmp 56), none, []⟩,
    ⟨(some 58), .move (.tmp 13), none, []⟩,
    ⟨(some 59), .mm true [(.tmp 57), (.tmp 58)], none, []⟩,
    ⟨(some 60), .fieldAddr 2 (.tmp 3), none, []⟩,
    ⟨none, .store 1 (.tmp 60) (.tmp 59), none, []⟩]) k30x22
def k30x20 : AC := .seq (.ops false [
    ⟨(some 51), .move (.tmp 12), none, []⟩,
    ⟨(some 52), .bin .other .add (.tmp 51) (.c (.int .i64 1)), none, []⟩,
    ⟨(some 53), .move (.tmp 2), none, []⟩,
    ⟨(some 54), .bin .other .add (.tmp 52) (.tmp 53), none, []⟩,
    ⟨(some 55), .fieldAddr 0 (.tmp 3), none, []⟩,
    ⟨none, .store 1 (.tmp 55) (.tmp 54), none, []⟩]) k30x21
def k30x19 : AC := .seq (.ops false [
    ⟨(some 48), .move (.tmp 12), none, []⟩,
    ⟨(some 49), .move (.tmp 11), none, []⟩,
    ⟨(some 50), .bin .other .add (.tmp 48) (.tmp 49), none, []⟩,
    ⟨(some 13), .move (.tmp 50), none, []⟩]) k30x20
def k30x18 : AC := .seq (.ops false [
    ⟨(some 44), .load (.raw 20) (.tmp 3), none, []⟩,
    ⟨(some 45), .load (.agg [(.int .i64), (.int .i64), (.int .i64), (.int .i64), (.int .i64)]) (.tmp 4), none, []⟩,
    ⟨(some 46), .move (.tmp 11), none, []⟩,
    ⟨(some 47), .call 45 [(.tmp 44), (.tmp 45), (.tmp 46)] [(.cell (.int .i64))] (.int .i64 0), none, []⟩,
    ⟨(some 12), .move (.tmp 47), none, []⟩]) k30x19
def k30x13 : AC := .seq (.ops false [
    ⟨(some 39), .fieldAddr 0 (.tmp 4), none, []⟩,
    ⟨(some 40), .load (.cell (.int .i64)) (.tmp 39), none, []⟩,
    ⟨(some 41), .call 44 [(.tmp 40)] [(.cell (.int .i64))] (.int .i64 0), none, []⟩,
    ⟨(some 42), .move (.tmp 2), none, []⟩,
    ⟨(some 43), .bin .other .add (.tmp 41) (.tmp 42), none, []⟩,
    ⟨(some 11), .move (.tmp 43), none, []⟩]) k30x18
def k30x7 : AC := .seq (.seq (.ops true [
    ⟨(some 32), .move (.tmp 2), none, []⟩,
    ⟨(some 33), .bin .other .lss (.tmp 32) (.c (.int .i64 0)), none, []⟩,
    ⟨(some 34), .move (.tmp 33), none, []⟩,
    ⟨(some 35), .move (.tmp 2), (some (34, false)), []⟩,
    ⟨(some 36), .bin .other .gtr (.tmp 35) (.c (.int .i64 10000)), (some (34, false)), []⟩,
    ⟨(some 37), .pick (.tmp 34) (.c (.bool true)) (.tmp 36), none, []⟩]) k30x14) k30x13
def k30x1 : AC := .seq (.seq (.ops false [
    ⟨(some 26), .load (.agg [(.int .i64), (.int .i64), (.int .i64), (.int .i64), (.int .i64)]) (.tmp 4), none, []⟩,
    ⟨(some 27), .call 28 [(.tmp 26)] [(.cell (.int .i64))] (.int .i64 0), none, []⟩,
    ⟨(some 10), .move (.tmp 27), none, []⟩]) k30x8) k30x7
def k30x0 : AC := .seq (.seq (.ops false [
    ⟨(some 20), .load (.raw 20) (.tmp 3), none, []⟩,
    ⟨(some 21), .call 43 [(.tmp 20)] [(.cell (.int .i64))] (.int .i64 0), none, []⟩,
    ⟨(some 9), .move (.tmp 21), none, []⟩]) k30x2) k30x1
/-- provenance/timing.Issue -/
def c30 : AFn := ⟨109, [.cell 6 (.raw 20), .tmp 7, .tmp 8],
  .seq (.ops false [
    ⟨(some 3), .boxL (.tmp 0), none, []⟩,
    ⟨(some 4), .boxL (.tmp 1), none, []⟩,
    ⟨(some 6), .allocL [(.int .i64 0), (.int .i64 0), (.int .i64 0), (.int .i64 0), (.int .i64 0), (.int .i64 0), (.int .i64 0), (.int .i64 0), (.int .i64 0), (.int .i64 0), (.int .i64 0), (.int .i64 0), (.int .i64 0), (.int .i64 0), (.int .i64 0), (.int .i64 0), (.int .i64 0), (.int .i64 0), (.int .i64 0), (.sl .nil 0)], none, []⟩,
    ⟨(some 7), .move (.c (.int .i64 0)), none, []⟩,
    ⟨(some 8), .move (.c (.int .i64 0)), none, []⟩]) k30x0⟩
def S30xe0 (l3 : List AV) (i4x0 : Int) (i4x1 : Int) (i4x2 : Int) (i4x3 : Int) (i4x4 : Int) (i6x0 : Int) (i6x1 : Int) (i6x2 : Int) (i6x3 : Int) (i6x4 : Int) (i6x5 : Int) (i6x6 : Int) (i6x7 : Int) (i6x8 : Int) (i6x9 : Int) (i6x10 : Int) (i6x11 : Int) (i6x12 : Int) (i6x13 : Int) (i6x14 : Int) (i6x15 : Int) (i6x16 : Int) (i6x17 : Int) (i6x18 : Int) (s6x19 : SA) (n6x19 : Nat) (i12 : Int) (i13 : Int) (s14 : SA) (n14 : Nat) (h : Heap) : St := ⟨(rep 3 (.box l3 :: (.box [(.int .i64 i4x0), (.int .i64 i4x1), (.int .i64 i4x2), (.int .i64 i4x3), (.int .i64 i4x4)] :: (.any :: (.box [(.int .i64 i6x0), (.int .i64 i6x1), (.int .i64 i6x2), (.int .i64 i6x3), (.int .i64 i6x4), (.int .i64 i6x5), (.int .i64 i6x6), (.int .i64 i6x7), (.int .i64 i6x8), (.int .i64 i6x9), (.int .i64 i6x10), (.int .i64 i6x11), (.int .i64 i6x12), (.int .i64 i6x13), (.int .i64 i6x14), (.int .i64 i6x15), (.int .i64 i6x16), (.int .i64 i6x17), (.int .i64 i6x18), (.sl s6x19 n6x19)] :: (rep 5 (.g [] true (.int .i64 i12) :: (.g [] true (.int .i64 i13) :: (.g [] true (.sl s14 n14) :: (rep 94 [])))))))))), h⟩
noncomputable def J30x26 (M : Mk) (C : Cal) (l3 : List AV) (i4x0 : Int) (i4x1 : Int) (i4x2 : Int) (i4x3 : Int) (i4x4 : Int) (i6x0 : Int) (i6x1 : Int) (i6x2 : Int) (i6x3 : Int) (i6x4 : Int) (i6x5 : Int) (i6x6 : Int) (i6x7 : Int) (i6x8 : Int) (i6x9 : Int) (i6x10 : Int) (i6x11 : Int) (i6x12 : Int) (i6x13 : Int) (i6x14 : Int) (i6x15 : Int) (i6x16 : Int) (i6x17 : Int) (i6x18 : Int) (s6x19 : SA) (n6x19 : Nat) (i12 : Int) (i13 : Int) (h : Heap) : Res := M (AV × Heap) (seqQ (evalE M C k30x23) (endQ [.cell 6 (.raw 20), .tmp 7, .tmp 8])) (rep 3 (.box l3 :: (.box [(.int .i64 i4x0), (.int .i64 i4x1), (.int .i64 i4x2), (.int .i64 i4x3), (.int .i64 i4x4)] :: (.any :: (.box [(.int .i64 i6x0), (.int .i64 i6x1), (.int .i64 i6x2), (.int .i64 i6x3), (.int .i64 i6x4), (.int .i64 i6x5), (.int .i64 i6x6), (.int .i64 i6x7), (.int .i64 i6x8), (.int .i64 i6x9), (.int .i64 i6x10), (.int .i64 i6x11), (.int .i64 i6x12), (.int .i64 i6x13), (.int .i64 i6x14), (.int .i64 i6x15), (.int .i64 i6x16), (.int .i64 i6x17), (.int .i64 i6x18), (.sl s6x19 n6x19)] :: (rep 5 (.g [] true (.int .i64 i12) :: (.g [] true (.int .i64 i13) :: (rep 95 []))))))))) h
noncomputable def Q30x31 (M : Mk) (C : Cal) : Kont (AV × Heap) := (blockQ 0 (seqQ (evalE M C k30x30) (seqQ (evalE M C k30x28) (endQ [.cell 6 (.raw 20), .tmp 7, .tmp 8]))))
noncomputable def L30x31 (l3 : List AV) (i4x0 : Int) (i4x1 : Int) (i4x2 : Int) (i4x3 : Int) (i4x4 : Int) (i6x0 : Int) (i6x1 : Int) (i6x2 : Int) (i6x3 : Int) (i6x4 : Int) (i6x5 : Int) (i6x6 : Int) (i6x7 : Int) (i6x8 : Int) (i6x9 : Int) (i6x10 : Int) (i6x11 : Int) (i6x12 : Int) (i6x13 : Int) (i6x14 : Int) (i6x15 : Int) (i6x16 : Int) (i6x17 : Int) (i6x18 : Int) (s6x19 : SA) (n6x19 : Nat) (i12 : Int) (i13 : Int) (s14 : SA) (n14 : Nat) (s67 : SA) (n67 : Nat) (i68 : Int) (i69 : Int) (h : Heap) (Q : Kont R) : Option R := loopE (evalE M C k30x31) 1033017668127734919256 28760 ⟨(rep 3 (.box l3 :: (.box [(.int .i64 i4x0), (.int .i64 i4x1), (.int .i64 i4x2), (.int .i64 i4x3), (.int .i64 i4x4)] :: (.any :: (.box [(.int .i64 i6x0), (.int .i64 i6x1), (.int .i64 i6x2), (.int .i64 i6x3), (.int .i64 i6x4), (.int .i64 i6x5), (.int .i64 i6x6), (.int .i64 i6x7), (.int .i64 i6x8), (.int .i64 i6x9), (.int .i64 i6x10), (.int .i64 i6x11), (.int .i64 i6x12), (.int .i64 i6x13), (.int .i64 i6x14), (.int .i64 i6x15), (.int .i64 i6x16), (.int .i64 i6x17), (.int .i64 i6x18), (.sl s6x19 n6x19)] :: (rep 5 (.g [] true (.int .i64 i12) :: (.g [] true (.int .i64 i13) :: (.g [] true (.sl s14 n14) :: (rep 52 (.g [] true (.sl s67 n67) :: (.g [] true (.int .i64 i68) :: (.g [] true (.int .i64 i69) :: (rep 39 [])))))))))))))), h⟩ Q
noncomputable def J30x41 (M : Mk) (C : Cal) (l3 : List AV) (i4x0 : Int) (i4x1 : Int) (i4x2 : Int) (i4x3 : Int) (i4x4 : Int) (i6x0 : Int) (i6x1 : Int) (i6x2 : Int) (i6x3 : Int) (i6x4 : Int) (i6x5 : Int) (i6x6 : Int) (i6x7 : Int) (i6x8 : Int) (i6x9 : Int) (i6x10 : Int) (i6x11 : Int) (i6x12 : Int) (i6x13 : Int) (i6x14 : Int) (i6x15 : Int) (i6x16 : Int) (i6x17 : Int) (i6x18 : Int) (s6x19 : SA) (n6x19 : Nat) (i12 : Int) (i13 : Int) (s14 : SA) (n14 : Nat) (s67 : SA) (n67 : Nat) (i68 : Int) (i69 : Int) (h : Heap) (Q : Kont R) : Option R := M R (blockQ 1 (seqQ (evalE M C k30x37) (seqQ (evalE M C k30x36) (roundQ M C k30x31 1033017668127734919256 28760 Q)))) (rep 3 (.box l3 :: (.box [(.int .i64 i4x0), (.int .i64 i4x1), (.int .i64 i4x2), (.int .i64 i4x3), (.int .i64 i4x4)] :: (.any :: (.box [(.int .i64 i6x0), (.int .i64 i6x1), (.int .i64 i6x2), (.int .i64 i6x3), (.int .i64 i6x4), (.int .i64 i6x5), (.int .i64 i6x6), (.int .i64 i6x7), (.int .i64 i6x8), (.int .i64 i6x9), (.int .i64 i6x10), (.int .i64 i6x11), (.int .i64 i6x12), (.int .i64 i6x13), (.int .i64 i6x14), (.int .i64 i6x15), (.int .i64 i6x16), (.int .i64 i6x17), (.int .i64 i6x18), (.sl s6x19 n6x19)] :: (rep 5 (.g [] true (.int .i64 i12) :: (.g [] true (.int .i64 i13) :: (.g [] true (.sl s14 n14) :: (rep 52 (.g [] true (.sl s67 n67) :: (.g [] true (.int .i64 i68) :: (.g [] true (.int .i64 i69) :: (rep 39 [])))))))))))))) h
noncomputable def J30x50 (M : Mk) (C : Cal) (l3 : List AV) (i6x0 : Int) (i6x1 : Int) (i6x2 : Int) (i6x3 : Int) (i6x4 : Int) (i6x5 : Int) (i6x6 : Int) (i6x7 : Int) (i6x8 : Int) (i6x9 : Int) (i6x10 : Int) (i6x11 : Int) (i6x12 : Int) (i6x13 : Int) (i6x14 : Int) (i6x15 : Int) (i6x16 : Int) (i6x17 : Int) (i6x18 : Int) (s6x19 : SA) (n6x19 : Nat) (i12 : Int) (s14 : SA) (n14 : Nat) (h : Heap) : Res := M (AV × Heap) (seqQ (evalE M C k30x45) (seqQ (evalE M C k30x42) (endQ [.cell 6 (.raw 20), .tmp 7, .tmp 8]))) (rep 3 (.box l3 :: (.any :: .any :: (.box [(.int .i64 i6x0), (.int .i64 i6x1), (.int .i64 i6x2), (.int .i64 i6x3), (.int .i64 i6x4), (.int .i64 i6x5), (.int .i64 i6x6), (.int .i64 i6x7), (.int .i64 i6x8), (.int .i64 i6x9), (.int .i64 i6x10), (.int .i64 i6x11), (.int .i64 i6x12), (.int .i64 i6x13), (.int .i64 i6x14), (.int .i64 i6x15), (.int .i64 i6x16), (.int .i64 i6x17), (.int .i64 i6x18), (.sl s6x19 n6x19)] :: (rep 5 (.g [] true (.int .i64 i12) :: (.any :: (.g [] true (.sl s14 n14) :: (rep 94 []))))))))) h
noncomputable def J30x51 (M : Mk) (C : Cal) (l3 : List AV) (i6x0 : Int) (i6x1 : Int) (i6x2 : Int) (i6x3 : Int) (i6x4 : Int) (i6x5 : Int) (i6x6 : Int) (i6x7 : Int) (i6x8 : Int) (i6x9 : Int) (i6x10 : Int) (i6x11 : Int) (i6x12 : Int) (i6x13 : Int) (i6x14 : Int) (i6x15 : Int) (i6x16 : Int) (i6x17 : Int) (i6x18 : Int) (s6x19 : SA) (n6x19 : Nat) (i12 : Int) (s14 : SA) (n14 : Nat) (h : Heap) : Res := M (AV × Heap) (seqQ (evalE M C k30x42) (endQ [.cell 6 (.raw 20), .tmp 7, .tmp 8])) (rep 3 (.box l3 :: (.any :: .any :: (.box [(.int .i64 i6x0), (.int .i64 i6x1), (.int .i64 i6x2), (.int .i64 i6x3), (.int .i64 i6x4), (.int .i64 i6x5), (.int .i64 i6x6), (.int .i64 i6x7), (.int .i64 i6x8), (.int .i64 i6x9), (.int .i64 i6x10), (.int .i64 i6x11), (.int .i64 i6x12), (.int .i64 i6x13), (.int .i64 i6x14), (.int .i64 i6x15), (.int .i64 i6x16), (.int .i64 i6x17), (.int .i64 i6x18), (.sl s6x19 n6x19)] :: (rep 5 (.g [] true (.int .i64 i12) :: (.any :: (.g [] true (.sl s14 n14) :: (rep 94 []))))))))) h
theorem r30 (l0 : List AV) (i1x0 : Int) (i1x1 : Int) (i1x2 : Int) (i1x3 : Int) (i1x4 : Int) (i2 : Int) (h : Heap) : runE M C c30 [(.agg l0), (.agg [(.int .i64 i1x0), (.int .i64 i1x1), (.int .i64 i1x2), (.int .i64 i1x3), (.int .i64 i1x4)]), (.int .i64 i2)] h = (
  chk (true = true → 0 + 20 ≤ List.length l0) <|
  (C 43 [(.agg ((List.drop 0 l0).take 20))] h).bind fun r21 =>
  gI .i64 (some r21.1) true fun i21 =>
  letK ((!decide ((i21 : Int) = 0)) : Bool) fun b23 =>
  if b23 = true then
    (
    some (.tup [(.agg [(.int .i64 0), (.int .i64 0), (.int .i64 0), (.int .i64 0), (.int .i64 0), (.int .i64 0), (.int .i64 0), (.int .i64 0), (.int .i64 0), (.int .i64 0), (.int .i64 0), (.int .i64 0), (.int .i64 0), (.int .i64 0), (.int .i64 0), (.int .i64 0), (.int .i64 0), (.int .i64 0), (.int .i64 0), (.sl .nil 0)]), (.int .i64 0), (.int .i64 i21)], r21.2)
    )
  else
    (
    (C 28 [(.agg [(.int .i64 i1x0), (.int .i64 i1x1), (.int .i64 i1x2), (.int .i64 i1x3), (.int .i64 i1x4)])] r21.2).bind fun r27 =>
    gI .i64 (some r27.1) true fun i27 =>
    letK ((!decide ((i27 : Int) = 0)) : Bool) fun b29 =>
    if b29 = true then
      (
      some (.tup [(.agg [(.int .i64 0), (.int .i64 0), (.int .i64 0), (.int .i64 0), (.int .i64 0), (.int .i64 0), (.int .i64 0), (.int .i64 0), (.int .i64 0), (.int .i64 0), (.int .i64 0), (.int .i64 0), (.int .i64 0), (.int .i64 0), (.int .i64 0), (.int .i64 0), (.int .i64 0), (.int .i64 0), (.int .i64 0), (.sl .nil 0)]), (.int .i64 0), (.int .i64 i27)], r27.2)
      )
    else
      (
      letK ((decide ((i2 : Int) < 0)) : Bool) fun b33 =>
      letK ((decide ((10000 : Int) < i2)) : Bool) fun b36 =>
      letK ((if b33 = true then true else b36) : Bool) fun b37 =>
      if b37 = true then
        (
        some (.tup [(.agg [(.int .i64 0), (.int .i64 0), (.int .i64 0), (.int .i64 0), (.int .i64 0), (.int .i64 0), (.int .i64 0), (.int .i64 0), (.int .i64 0), (.int .i64 0), (.int .i64 0), (.int .i64 0), (.int .i64 0), (.int .i64 0), (.int .i64 0), (.int .i64 0), (.int .i64 0), (.int .i64 0), (.int .i64 0), (.sl .nil 0)]), (.int .i64 0), (.int .i64 1)], r27.2)
        )
      else
        (
        (C 44 [(.int .i64 i1x0)] r27.2).bind fun r41 =>
        gI .i64 (some r41.1) true fun i41 =>
        letK ((IntKind.wrap .i64 (i41 + i2)) : Int) fun i43 =>
        chk (true = true → 0 + 20 ≤ List.length l0) <|
        (C 45 [(.agg ((List.drop 0 l0).take 20)), (.agg [(.int .i64 i1x0), (.int .i64 i1x1), (.int .i64 i1x2), (.int .i64 i1x3), (.int .i64 i1x4)]), (.int .i64 i43)] r41.2).bind fun r47 =>
        gI .i64 (some r47.1) true fun i47 =>
        letK ((IntKind.wrap .i64 (i47 + i43)) : Int) fun i50 =>
        letK ((IntKind.wrap .i64 (i47 + 1)) : Int) fun i52 =>
        letK ((IntKind.wrap .i64 (i52 + i2)) : Int) fun i54 =>
        chk (true = true ∧ 0 < List.length l0) <|
        letK (List.set l0 0 (.int .i64 i54)) fun lx =>
        gI .i64 (lx[2]?) true fun i57 =>
        letK ((foldMM true i57 [i50]) : Int) fun i59 =>
        chk (true = true ∧ 2 < List.length lx) <|
        letK (List.set lx 2 (.int .i64 i59)) fun lx_2 =>
        (C 46 [(.int .i64 i1x0)] r47.2).bind fun r63 =>
        gB (some r63.1) true fun b63 =>
        if b63 = true then
          (
          chk (true = true ∧ 1 < List.length lx_2) <|
          letK (List.set lx_2 1 (.int .i64 i50)) fun lx_3 =>
          J30x26 M C lx_3 i1x0 i1x1 i1x2 i1x3 i1x4 0 0 0 0 0 0 0 0 0 0 0 0 0 0 0 0 0 0 0 .nil 0 i47 i50 r63.2
          )
        else
          (
          J30x26 M C lx_2 i1x0 i1x1 i1x2 i1x3 i1x4 0 0 0 0 0 0 0 0 0 0 0 0 0 0 0 0 0 0 0 .nil 0 i47 i50 r63.2
          )
        )
      )
    )
  ) := by kernel_rfl
theorem cf30 : cFn Try.prog 30 = some c30 := by kernel_rfl
theorem e30 (l0 : List AV) (i1x0 : Int) (i1x1 : Int) (i1x2 : Int) (i1x3 : Int) (i1x4 : Int) (i2 : Int) (h : Heap) : E 30 [(.agg l0), (.agg [(.int .i64 i1x0), (.int .i64 i1x1), (.int .i64 i1x2), (.int .i64 i1x3), (.int .i64 i1x4)]), (.int .i64 i2)] h = (
  chk (true = true → 0 + 20 ≤ List.length l0) <|
  (E 43 [(.agg ((List.drop 0 l0).take 20))] h).bind fun r21 =>
  gI .i64 (some r21.1) true fun i21 =>
  letK ((!decide ((i21 : Int) = 0)) : Bool) fun b23 =>
  if b23 = true then
    (
    some (.tup [(.agg [(.int .i64 0), (.int .i64 0), (.int .i64 0), (.int .i64 0), (.int .i64 0), (.int .i64 0), (.int .i64 0), (.int .i64 0), (.int .i64 0), (.int .i64 0), (.int .i64 0), (.int .i64 0), (.int .i64 0), (.int .i64 0), (.int .i64 0), (.int .i64 0), (.int .i64 0), (.int .i64 0), (.int .i64 0), (.sl .nil 0)]), (.int .i64 0), (.int .i64 i21)], r21.2)
    )
  else
    (
    (E 28 [(.agg [(.int .i64 i1x0), (.int .i64 i1x1), (.int .i64 i1x2), (.int .i64 i1x3), (.int .i64 i1x4)])] r21.2).bind fun r27 =>
    gI .i64 (some r27.1) true fun i27 =>
    letK ((!decide ((i27 : Int) = 0)) : Bool) fun b29 =>
    if b29 = true then
      (
      some (.tup [(.agg [(.int .i64 0), (.int .i64 0), (.int .i64 0), (.int .i64 0), (.int .i64 0), (.int .i64 0), (.int .i64 0), (.int .i64 0), (.int .i64 0), (.int .i64 0), (.int .i64 0), (.int .i64 0), (.int .i64 0), (.int .i64 0), (.int .i64 0), (.int .i64 0), (.int .i64 0), (.int .i64 0), (.int .i64 0), (.sl .nil 0)]), (.int .i64 0), (.int .i64 i27)], r27.2)
      )
    else
      (
      letK ((decide ((i2 : Int) < 0)) : Bool) fun b33 =>
      letK ((decide ((10000 : Int) < i2)) : Bool) fun b36 =>
      letK ((if b33 = true then true else b36) : Bool) fun b37 =>
      if b37 = true then
        (
        some (.tup [(.agg [(.int .i64 0), (.int .i64 0), (.int .i64 0), (.int .i64 0), (.int .i64 0), (.int .i64 0), (.int .i64 0), (.int .i64 0), (.int .i64 0), (.int .i64 0), (.int .i64 0), (.int .i64 0), (.int .i64 0), (.int .i64 0), (.int .i64 0), (.int .i64 0), (.int .i64 0), (.int .i64 0), (.int .i64 0), (.sl .nil 0)]), (.int .i64 0), (.int .i64 1)], r27.2)
        )
      else
        (
        (E 44 [(.int .i64 i1x0)] r27.2).bind fun r41 =>
        gI .i64 (some r41.1) true fun i41 =>
        letK ((IntKind.wrap .i64 (i41 + i2)) : Int) fun i43 =>
        chk (true = true → 0 + 20 ≤ List.length l0) <|
        (E 45 [(.agg ((List.drop 0 l0).take 20)), (.agg [(.int .i64 i1x0), (.int .i64 i1x1), (.int .i64 i1x2), (.int .i64 i1x3), (.int .i64 i1x4)]), (.int .i64 i43)] r41.2).bind fun r47 =>
        gI .i64 (some r47.1) true fun i47 =>
        letK ((IntKind.wrap .i64 (i47 + i43)) : Int) fun i50 =>
        letK ((IntKind.wrap .i64 (i47 + 1)) : Int) fun i52 =>
        letK ((IntKind.wrap .i64 (i52 + i2)) : Int) fun i54 =>
        chk (true = true ∧ 0 < List.length l0) <|
        letK (List.set l0 0 (.int .i64 i54)) fun lx =>
        gI .i64 (lx[2]?) true fun i57 =>
        letK ((foldMM true i57 [i50]) : Int) fun i59 =>
        chk (true = true ∧ 2 < List.length lx) <|
        letK (List.set lx 2 (.int .i64 i59)) fun lx_2 =>
        (E 46 [(.int .i64 i1x0)] r47.2).bind fun r63 =>
        gB (some r63.1) true fun b63 =>
        if b63 = true then
          (
          chk (true = true ∧ 1 < List.length lx_2) <|
          letK (List.set lx_2 1 (.int .i64 i50)) fun lx_3 =>
          J30x26 mk0 E lx_3 i1x0 i1x1 i1x2 i1x3 i1x4 0 0 0 0 0 0 0 0 0 0 0 0 0 0 0 0 0 0 0 .nil 0 i47 i50 r63.2
          )
        else
          (
          J30x26 mk0 E lx_2 i1x0 i1x1 i1x2 i1x3 i1x4 0 0 0 0 0 0 0 0 0 0 0 0 0 0 0 0 0 0 0 .nil 0 i47 i50 r63.2
          )
        )
      )
    )
  ) := (EV_eq (P := Try.prog) (T := T0) rfl cf30 [(.agg l0), (.agg [(.int .i64 i1x0), (.int .i64 i1x1), (.int .i64 i1x2), (.int .i64 i1x3), (.int .i64 i1x4)]), (.int .i64 i2)] h).trans (r30 mk0 E l0 i1x0 i1x1 i1x2 i1x3 i1x4 i2 h)
theorem J30x26xaux (M : Mk) (C : Cal) (l3 : List AV) (i4x0 : Int) (i4x1 : Int) (i4x2 : Int) (i4x3 : Int) (i4x4 : Int) (i6x0 : Int) (i6x1 : Int) (i6x2 : Int) (i6x3 : Int) (i6x4 : Int) (i6x5 : Int) (i6x6 : Int) (i6x7 : Int) (i6x8 : Int) (i6x9 : Int) (i6x10 : Int) (i6x11 : Int) (i6x12 : Int) (i6x13 : Int) (i6x14 : Int) (i6x15 : Int) (i6x16 : Int) (i6x17 : Int) (i6x18 : Int) (s6x19 : SA) (n6x19 : Nat) (i12 : Int) (i13 : Int) (h : Heap) : (forceK tk (rep 3 (.box l3 :: (.box [(.int .i64 i4x0), (.int .i64 i4x1), (.int .i64 i4x2), (.int .i64 i4x3), (.int .i64 i4x4)] :: (.any :: (.box [(.int .i64 i6x0), (.int .i64 i6x1), (.int .i64 i6x2), (.int .i64 i6x3), (.int .i64 i6x4), (.int .i64 i6x5), (.int .i64 i6x6), (.int .i64 i6x7), (.int .i64 i6x8), (.int .i64 i6x9), (.int .i64 i6x10), (.int .i64 i6x11), (.int .i64 i6x12), (.int .i64 i6x13), (.int .i64 i6x14), (.int .i64 i6x15), (.int .i64 i6x16), (.int .i64 i6x17), (.int .i64 i6x18), (.sl s6x19 n6x19)] :: (rep 5 (.g [] true (.int .i64 i12) :: (.g [] true (.int .i64 i13) :: (rep 95 []))))))))) fun e => (seqQ (evalE M C k30x23) (endQ [.cell 6 (.raw 20), .tmp 7, .tmp 8])) .normal ⟨e, h⟩) = (
  gL (l3[19]?) true fun s67 n67 =>
  L30x31 M C l3 i4x0 i4x1 i4x2 i4x3 i4x4 i6x0 i6x1 i6x2 i6x3 i6x4 i6x5 i6x6 i6x7 i6x8 i6x9 i6x10 i6x11 i6x12 i6x13 i6x14 i6x15 i6x16 i6x17 i6x18 s6x19 n6x19 i12 i13 .nil 0 s67 n67 ((n67 : Nat) : Int) 0 h (Q30x31 M C)
  ) := by kernel_rfl
theorem J30x26xeq (C : Cal) (l3 : List AV) (i4x0 : Int) (i4x1 : Int) (i4x2 : Int) (i4x3 : Int) (i4x4 : Int) (i6x0 : Int) (i6x1 : Int) (i6x2 : Int) (i6x3 : Int) (i6x4 : Int) (i6x5 : Int) (i6x6 : Int) (i6x7 : Int) (i6x8 : Int) (i6x9 : Int) (i6x10 : Int) (i6x11 : Int) (i6x12 : Int) (i6x13 : Int) (i6x14 : Int) (i6x15 : Int) (i6x16 : Int) (i6x17 : Int) (i6x18 : Int) (s6x19 : SA) (n6x19 : Nat) (i12 : Int) (i13 : Int) (h : Heap) : J30x26 mk0 C l3 i4x0 i4x1 i4x2 i4x3 i4x4 i6x0 i6x1 i6x2 i6x3 i6x4 i6x5 i6x6 i6x7 i6x8 i6x9 i6x10 i6x11 i6x12 i6x13 i6x14 i6x15 i6x16 i6x17 i6x18 s6x19 n6x19 i12 i13 h = (
  gL (l3[19]?) true fun s67 n67 =>
  L30x31 mk0 C l3 i4x0 i4x1 i4x2 i4x3 i4x4 i6x0 i6x1 i6x2 i6x3 i6x4 i6x5 i6x6 i6x7 i6x8 i6x9 i6x10 i6x11 i6x12 i6x13 i6x14 i6x15 i6x16 i6x17 i6x18 s6x19 n6x19 i12 i13 .nil 0 s67 n67 ((n67 : Nat) : Int) 0 h (Q30x31 mk0 C)
  ) := join_eqn (seqQ (evalE mk0 C k30x23) (endQ [.cell 6 (.raw 20), .tmp 7, .tmp 8])) (rep 3 (.box l3 :: (.box [(.int .i64 i4x0), (.int .i64 i4x1), (.int .i64 i4x2), (.int .i64 i4x3), (.int .i64 i4x4)] :: (.any :: (.box [(.int .i64 i6x0), (.int .i64 i6x1), (.int .i64 i6x2), (.int .i64 i6x3), (.int .i64 i6x4), (.int .i64 i6x5), (.int .i64 i6x6), (.int .i64 i6x7), (.int .i64 i6x8), (.int .i64 i6x9), (.int .i64 i6x10), (.int .i64 i6x11), (.int .i64 i6x12), (.int .i64 i6x13), (.int .i64 i6x14), (.int .i64 i6x15), (.int .i64 i6x16), (.int .i64 i6x17), (.int .i64 i6x18), (.sl s6x19 n6x19)] :: (rep 5 (.g [] true (.int .i64 i12) :: (.g [] true (.int .i64 i13) :: (rep 95 []))))))))) h (J30x26xaux mk0 C l3 i4x0 i4x1 i4x2 i4x3 i4x4 i6x0 i6x1 i6x2 i6x3 i6x4 i6x5 i6x6 i6x7 i6x8 i6x9 i6x10 i6x11 i6x12 i6x13 i6x14 i6x15 i6x16 i6x17 i6x18 s6x19 n6x19 i12 i13 h)
theorem L30x31xaux (l3 : List AV) (i4x0 : Int) (i4x1 : Int) (i4x2 : Int) (i4x3 : Int) (i4x4 : Int) (i6x0 : Int) (i6x1 : Int) (i6x2 : Int) (i6x3 : Int) (i6x4 : Int) (i6x5 : Int) (i6x6 : Int) (i6x7 : Int) (i6x8 : Int) (i6x9 : Int) (i6x10 : Int) (i6x11 : Int) (i6x12 : Int) (i6x13 : Int) (i6x14 : Int) (i6x15 : Int) (i6x16 : Int) (i6x17 : Int) (i6x18 : Int) (s6x19 : SA) (n6x19 : Nat) (i12 : Int) (i13 : Int) (s14 : SA) (n14 : Nat) (s67 : SA) (n67 : Nat) (i68 : Int) (i69 : Int) (h : Heap) (Q : Kont R) : (restrF 1033017668127734919256 ⟨(rep 3 (.box l3 :: (.box [(.int .i64 i4x0), (.int .i64 i4x1), (.int .i64 i4x2), (.int .i64 i4x3), (.int .i64 i4x4)] :: (.any :: (.box [(.int .i64 i6x0), (.int .i64 i6x1), (.int .i64 i6x2), (.int .i64 i6x3), (.int .i64 i6x4), (.int .i64 i6x5), (.int .i64 i6x6), (.int .i64 i6x7), (.int .i64 i6x8), (.int .i64 i6x9), (.int .i64 i6x10), (.int .i64 i6x11), (.int .i64 i6x12), (.int .i64 i6x13), (.int .i64 i6x14), (.int .i64 i6x15), (.int .i64 i6x16), (.int .i64 i6x17), (.int .i64 i6x18), (.sl s6x19 n6x19)] :: (rep 5 (.g [] true (.int .i64 i12) :: (.g [] true (.int .i64 i13) :: (.g [] true (.sl s14 n14) :: (rep 52 (.g [] true (.sl s67 n67) :: (.g [] true (.int .i64 i68) :: (.g [] true (.int .i64 i69) :: (rep 39 [])))))))))))))), h⟩ fun σ => evalE M C k30x31 σ (roundQ M C k30x31 1033017668127734919256 28760 Q)) = (
  letK ((decide ((i69 : Int) < i68)) : Bool) fun b70 =>
  if b70 = true then
    (
    chk (true = true → (0 : Int) ≤ i69 ∧ (i69 : Int) < ((n67 : Nat) : Int)) <|
    atP (adP s67) true fun a71 =>
    gI .i64 (ld1 h (Ad.add a71 (Int.toNat i69 * 1))) true fun i72 =>
    gI .i64 (l3[0]?) true fun i75 =>
    letK ((decide ((i75 : Int) ≤ i72)) : Bool) fun b76 =>
    if b76 = true then
      (
      newK h (.cells [(.int .i64 i72)] (.grow 1) 0) fun h_2 =>
      (ldSl h_2 (.pos ⟨List.length h, 0, 0⟩) (1 * 1)).bind fun y80 =>
      (apnd h_2 (.sl s14 n14) 1 8 y80 1).bind fun r80 =>
      gL (some r80.1) true fun s80 n80 =>
      J30x41 M C l3 i4x0 i4x1 i4x2 i4x3 i4x4 i6x0 i6x1 i6x2 i6x3 i6x4 i6x5 i6x6 i6x7 i6x8 i6x9 i6x10 i6x11 i6x12 i6x13 i6x14 i6x15 i6x16 i6x17 i6x18 s6x19 n6x19 i12 i13 s80 n80 s67 n67 i68 i69 r80.2 Q
      )
    else
      (
      J30x41 M C l3 i4x0 i4x1 i4x2 i4x3 i4x4 i6x0 i6x1 i6x2 i6x3 i6x4 i6x5 i6x6 i6x7 i6x8 i6x9 i6x10 i6x11 i6x12 i6x13 i6x14 i6x15 i6x16 i6x17 i6x18 s6x19 n6x19 i12 i13 s14 n14 s67 n67 i68 i69 h Q
      )
    )
  else
    (
    Q (.exit 0) (S30xe0 l3 i4x0 i4x1 i4x2 i4x3 i4x4 i6x0 i6x1 i6x2 i6x3 i6x4 i6x5 i6x6 i6x7 i6x8 i6x9 i6x10 i6x11 i6x12 i6x13 i6x14 i6x15 i6x16 i6x17 i6x18 s6x19 n6x19 i12 i13 s14 n14 h)
    )
  ) := by kernel_rfl
theorem L30x31xeq (l3 : List AV) (i4x0 : Int) (i4x1 : Int) (i4x2 : Int) (i4x3 : Int) (i4x4 : Int) (i6x0 : Int) (i6x1 : Int) (i6x2 : Int) (i6x3 : Int) (i6x4 : Int) (i6x5 : Int) (i6x6 : Int) (i6x7 : Int) (i6x8 : Int) (i6x9 : Int) (i6x10 : Int) (i6x11 : Int) (i6x12 : Int) (i6x13 : Int) (i6x14 : Int) (i6x15 : Int) (i6x16 : Int) (i6x17 : Int) (i6x18 : Int) (s6x19 : SA) (n6x19 : Nat) (i12 : Int) (i13 : Int) (s14 : SA) (n14 : Nat) (s67 : SA) (n67 : Nat) (i68 : Int) (i69 : Int) (h : Heap) (Q : Kont R) : L30x31 mk0 C l3 i4x0 i4x1 i4x2 i4x3 i4x4 i6x0 i6x1 i6x2 i6x3 i6x4 i6x5 i6x6 i6x7 i6x8 i6x9 i6x10 i6x11 i6x12 i6x13 i6x14 i6x15 i6x16 i6x17 i6x18 s6x19 n6x19 i12 i13 s14 n14 s67 n67 i68 i69 h Q = (
  letK ((decide ((i69 : Int) < i68)) : Bool) fun b70 =>
  if b70 = true then
    (
    chk (true = true → (0 : Int) ≤ i69 ∧ (i69 : Int) < ((n67 : Nat) : Int)) <|
    atP (adP s67) true fun a71 =>
    gI .i64 (ld1 h (Ad.add a71 (Int.toNat i69 * 1))) true fun i72 =>
    gI .i64 (l3[0]?) true fun i75 =>
    letK ((decide ((i75 : Int) ≤ i72)) : Bool) fun b76 =>
    if b76 = true then
      (
      newK h (.cells [(.int .i64 i72)] (.grow 1) 0) fun h_2 =>
      (ldSl h_2 (.pos ⟨List.length h, 0, 0⟩) (1 * 1)).bind fun y80 =>
      (apnd h_2 (.sl s14 n14) 1 8 y80 1).bind fun r80 =>
      gL (some r80.1) true fun s80 n80 =>
      J30x41 mk0 C l3 i4x0 i4x1 i4x2 i4x3 i4x4 i6x0 i6x1 i6x2 i6x3 i6x4 i6x5 i6x6 i6x7 i6x8 i6x9 i6x10 i6x11 i6x12 i6x13 i6x14 i6x15 i6x16 i6x17 i6x18 s6x19 n6x19 i12 i13 s80 n80 s67 n67 i68 i69 r80.2 Q
      )
    else
      (
      J30x41 mk0 C l3 i4x0 i4x1 i4x2 i4x3 i4x4 i6x0 i6x1 i6x2 i6x3 i6x4 i6x5 i6x6 i6x7 i6x8 i6x9 i6x10 i6x11 i6x12 i6x13 i6x14 i6x15 i6x16 i6x17 i6x18 s6x19 n6x19 i12 i13 s14 n14 s67 n67 i68 i69 h Q
      )
    )
  else
    (
    Q (.exit 0) (S30xe0 l3 i4x0 i4x1 i4x2 i4x3 i4x4 i6x0 i6x1 i6x2 i6x3 i6x4 i6x5 i6x6 i6x7 i6x8 i6x9 i6x10 i6x11 i6x12 i6x13 i6x14 i6x15 i6x16 i6x17 i6x18 s6x19 n6x19 i12 i13 s14 n14 h)
    )
  ) := loop_eqn C k30x31 1033017668127734919256 28760 (rep 3 (.box l3 :: (.box [(.int .i64 i4x0), (.int .i64 i4x1), (.int .i64 i4x2), (.int .i64 i4x3), (.int .i64 i4x4)] :: (.any :: (.box [(.int .i64 i6x0), (.int .i64 i6x1), (.int .i64 i6x2), (.int .i64 i6x3), (.int .i64 i6x4), (.int .i64 i6x5), (.int .i64 i6x6), (.int .i64 i6x7), (.int .i64 i6x8), (.int .i64 i6x9), (.int .i64 i6x10), (.int .i64 i6x11), (.int .i64 i6x12), (.int .i64 i6x13), (.int .i64 i6x14), (.int .i64 i6x15), (.int .i64 i6x16), (.int .i64 i6x17), (.int .i64 i6x18), (.sl s6x19 n6x19)] :: (rep 5 (.g [] true (.int .i64 i12) :: (.g [] true (.int .i64 i13) :: (.g [] true (.sl s14 n14) :: (rep 52 (.g [] true (.sl s67 n67) :: (.g [] true (.int .i64 i68) :: (.g [] true (.int .i64 i69) :: (rep 39 [])))))))))))))) h Q (by kernel_rfl) (L30x31xaux mk0 C l3 i4x0 i4x1 i4x2 i4x3 i4x4 i6x0 i6x1 i6x2 i6x3 i6x4 i6x5 i6x6 i6x7 i6x8 i6x9 i6x10 i6x11 i6x12 i6x13 i6x14 i6x15 i6x16 i6x17 i6x18 s6x19 n6x19 i12 i13 s14 n14 s67 n67 i68 i69 h Q)
theorem J30x41xaux (M : Mk) (C : Cal) (l3 : List AV) (i4x0 : Int) (i4x1 : Int) (i4x2 : Int) (i4x3 : Int) (i4x4 : Int) (i6x0 : Int) (i6x1 : Int) (i6x2 : Int) (i6x3 : Int) (i6x4 : Int) (i6x5 : Int) (i6x6 : Int) (i6x7 : Int) (i6x8 : Int) (i6x9 : Int) (i6x10 : Int) (i6x11 : Int) (i6x12 : Int) (i6x13 : Int) (i6x14 : Int) (i6x15 : Int) (i6x16 : Int) (i6x17 : Int) (i6x18 : Int) (s6x19 : SA) (n6x19 : Nat) (i12 : Int) (i13 : Int) (s14 : SA) (n14 : Nat) (s67 : SA) (n67 : Nat) (i68 : Int) (i69 : Int) (h : Heap) (Q : Kont R) : (forceK tk (rep 3 (.box l3 :: (.box [(.int .i64 i4x0), (.int .i64 i4x1), (.int .i64 i4x2), (.int .i64 i4x3), (.int .i64 i4x4)] :: (.any :: (.box [(.int .i64 i6x0), (.int .i64 i6x1), (.int .i64 i6x2), (.int .i64 i6x3), (.int .i64 i6x4), (.int .i64 i6x5), (.int .i64 i6x6), (.int .i64 i6x7), (.int .i64 i6x8), (.int .i64 i6x9), (.int .i64 i6x10), (.int .i64 i6x11), (.int .i64 i6x12), (.int .i64 i6x13), (.int .i64 i6x14), (.int .i64 i6x15), (.int .i64 i6x16), (.int .i64 i6x17), (.int .i64 i6x18), (.sl s6x19 n6x19)] :: (rep 5 (.g [] true (.int .i64 i12) :: (.g [] true (.int .i64 i13) :: (.g [] true (.sl s14 n14) :: (rep 52 (.g [] true (.sl s67 n67) :: (.g [] true (.int .i64 i68) :: (.g [] true (.int .i64 i69) :: (rep 39 [])))))))))))))) fun e => (blockQ 1 (seqQ (evalE M C k30x37) (seqQ (evalE M C k30x36) (roundQ M C k30x31 1033017668127734919256 28760 Q)))) .normal ⟨e, h⟩) = (
  letK ((IntKind.wrap .i64 (i69 + 1)) : Int) fun i81 =>
  L30x31 M C l3 i4x0 i4x1 i4x2 i4x3 i4x4 i6x0 i6x1 i6x2 i6x3 i6x4 i6x5 i6x6 i6x7 i6x8 i6x9 i6x10 i6x11 i6x12 i6x13 i6x14 i6x15 i6x16 i6x17 i6x18 s6x19 n6x19 i12 i13 s14 n14 s67 n67 i68 i81 h Q
  ) := by kernel_rfl
theorem J30x41xeq (C : Cal) (l3 : List AV) (i4x0 : Int) (i4x1 : Int) (i4x2 : Int) (i4x3 : Int) (i4x4 : Int) (i6x0 : Int) (i6x1 : Int) (i6x2 : Int) (i6x3 : Int) (i6x4 : Int) (i6x5 : Int) (i6x6 : Int) (i6x7 : Int) (i6x8 : Int) (i6x9 : Int) (i6x10 : Int) (i6x11 : Int) (i6x12 : Int) (i6x13 : Int) (i6x14 : Int) (i6x15 : Int) (i6x16 : Int) (i6x17 : Int) (i6x18 : Int) (s6x19 : SA) (n6x19 : Nat) (i12 : Int) (i13 : Int) (s14 : SA) (n14 : Nat) (s67 : SA) (n67 : Nat) (i68 : Int) (i69 : Int) (h : Heap) (Q : Kont R) : J30x41 mk0 C l3 i4x0 i4x1 i4x2 i4x3 i4x4 i6x0 i6x1 i6x2 i6x3 i6x4 i6x5 i6x6 i6x7 i6x8 i6x9 i6x10 i6x11 i6x12 i6x13 i6x14 i6x15 i6x16 i6x17 i6x18 s6x19 n6x19 i12 i13 s14 n14 s67 n67 i68 i69 h Q = (
  letK ((IntKind.wrap .i64 (i69 + 1)) : Int) fun i81 =>
  L30x31 mk0 C l3 i4x0 i4x1 i4x2 i4x3 i4x4 i6x0 i6x1 i6x2 i6x3 i6x4 i6x5 i6x6 i6x7 i6x8 i6x9 i6x10 i6x11 i6x12 i6x13 i6x14 i6x15 i6x16 i6x17 i6x18 s6x19 n6x19 i12 i13 s14 n14 s67 n67 i68 i81 h Q
  ) := join_eqn (blockQ 1 (seqQ (evalE mk0 C k30x37) (seqQ (evalE mk0 C k30x36) (roundQ mk0 C k30x31 1033017668127734919256 28760 Q)))) (rep 3 (.box l3 :: (.box [(.int .i64 i4x0), (.int .i64 i4x1), (.int .i64 i4x2), (.int .i64 i4x3), (.int .i64 i4x4)] :: (.any :: (.box [(.int .i64 i6x0), (.int .i64 i6x1), (.int .i64 i6x2), (.int .i64 i6x3), (.int .i64 i6x4), (.int .i64 i6x5), (.int .i64 i6x6), (.int .i64 i6x7), (.int .i64 i6x8), (.int .i64 i6x9), (.int .i64 i6x10), (.int .i64 i6x11), (.int .i64 i6x12), (.int .i64 i6x13), (.int .i64 i6x14), (.int .i64 i6x15), (.int .i64 i6x16), (.int .i64 i6x17), (.int .i64 i6x18), (.sl s6x19 n6x19)] :: (rep 5 (.g [] true (.int .i64 i12) :: (.g [] true (.int .i64 i13) :: (.g [] true (.sl s14 n14) :: (rep 52 (.g [] true (.sl s67 n67) :: (.g [] true (.int .i64 i68) :: (.g [] true (.int .i64 i69) :: (rep 39 [])))))))))))))) h (J30x41xaux mk0 C l3 i4x0 i4x1 i4x2 i4x3 i4x4 i6x0 i6x1 i6x2 i6x3 i6x4 i6x5 i6x6 i6x7 i6x8 i6x9 i6x10 i6x11 i6x12 i6x13 i6x14 i6x15 i6x16 i6x17 i6x18 s6x19 n6x19 i12 i13 s14 n14 s67 n67 i68 i69 h Q)
theorem X30x31xe0 (M : Mk) (C : Cal) (l3 : List AV) (i4x0 : Int) (i4x1 : Int) (i4x2 : Int) (i4x3 : Int) (i4x4 : Int) (i6x0 : Int) (i6x1 : Int) (i6x2 : Int) (i6x3 : Int) (i6x4 : Int) (i6x5 : Int) (i6x6 : Int) (i6x7 : Int) (i6x8 : Int) (i6x9 : Int) (i6x10 : Int) (i6x11 : Int) (i6x12 : Int) (i6x13 : Int) (i6x14 : Int) (i6x15 : Int) (i6x16 : Int) (i6x17 : Int) (i6x18 : Int) (s6x19 : SA) (n6x19 : Nat) (i12 : Int) (i13 : Int) (s14 : SA) (n14 : Nat) (h : Heap) : Q30x31 M C (.exit 0) (S30xe0 l3 i4x0 i4x1 i4x2 i4x3 i4x4 i6x0 i6x1 i6x2 i6x3 i6x4 i6x5 i6x6 i6x7 i6x8 i6x9 i6x10 i6x11 i6x12 i6x13 i6x14 i6x15 i6x16 i6x17 i6x18 s6x19 n6x19 i12 i13 s14 n14 h) = (
  (C 34 [(.agg [(.int .i64 i4x0), (.int .i64 i4x1), (.int .i64 i4x2), (.int .i64 i4x3), (.int .i64 i4x4)])] h).bind fun r83 =>
  gI .i64 (some r83.1) true fun i83 =>
  letK ((!decide ((i83 : Int) = 0)) : Bool) fun b85 =>
  if b85 = true then
    (
    chk (true = true → (0 : Int) ≤ i83 ∧ (i83 : Int) < ((16 : Nat) : Int)) <|
    chk (true = true ∧ (3 + Int.toNat i83 * 1) < List.length l3) <|
    letK (List.set l3 (3 + Int.toNat i83 * 1) (.int .i64 i13)) fun lx =>
    gI .i64 (lx[0]?) true fun i92 =>
    letK ((decide ((i92 : Int) ≤ i13)) : Bool) fun b93 =>
    if b93 = true then
      (
      (C 47 [(.sl s14 n14), (.int .i64 i13)] r83.2).bind fun r97 =>
      gT 2 r97.1 true fun u97 =>
      gI .i64 (some (List.getD u97 0 .opq)) true fun i97x0 =>
      gB (some (List.getD u97 1 .opq)) true fun b97x1 =>
      newK r97.2 (.cells [(.int .i64 i13)] (.grow 1) 0) fun h_2 =>
      (C 48 [(.sl s14 n14), (.int .i64 i97x0), (.sl (.pos ⟨List.length r97.2, 0, 0⟩) 1)] h_2).bind fun r104 =>
      gL (some r104.1) true fun s104 n104 =>
      J30x50 M C lx i6x0 i6x1 i6x2 i6x3 i6x4 i6x5 i6x6 i6x7 i6x8 i6x9 i6x10 i6x11 i6x12 i6x13 i6x14 i6x15 i6x16 i6x17 i6x18 s6x19 n6x19 i12 s104 n104 r104.2
      )
    else
      (
      J30x50 M C lx i6x0 i6x1 i6x2 i6x3 i6x4 i6x5 i6x6 i6x7 i6x8 i6x9 i6x10 i6x11 i6x12 i6x13 i6x14 i6x15 i6x16 i6x17 i6x18 s6x19 n6x19 i12 s14 n14 r83.2
      )
    )
  else
    (
    J30x51 M C l3 i6x0 i6x1 i6x2 i6x3 i6x4 i6x5 i6x6 i6x7 i6x8 i6x9 i6x10 i6x11 i6x12 i6x13 i6x14 i6x15 i6x16 i6x17 i6x18 s6x19 n6x19 i12 s14 n14 r83.2
    )
  ) := by kernel_rfl
theorem J30x50xaux (M : Mk) (C : Cal) (l3 : List AV) (i6x0 : Int) (i6x1 : Int) (i6x2 : Int) (i6x3 : Int) (i6x4 : Int) (i6x5 : Int) (i6x6 : Int) (i6x7 : Int) (i6x8 : Int) (i6x9 : Int) (i6x10 : Int) (i6x11 : Int) (i6x12 : Int) (i6x13 : Int) (i6x14 : Int) (i6x15 : Int) (i6x16 : Int) (i6x17 : Int) (i6x18 : Int) (s6x19 : SA) (n6x19 : Nat) (i12 : Int) (s14 : SA) (n14 : Nat) (h : Heap) : (forceK tk (rep 3 (.box l3 :: (.any :: .any :: (.box [(.int .i64 i6x0), (.int .i64 i6x1), (.int .i64 i6x2), (.int .i64 i6x3), (.int .i64 i6x4), (.int .i64 i6x5), (.int .i64 i6x6), (.int .i64 i6x7), (.int .i64 i6x8), (.int .i64 i6x9), (.int .i64 i6x10), (.int .i64 i6x11), (.int .i64 i6x12), (.int .i64 i6x13), (.int .i64 i6x14), (.int .i64 i6x15), (.int .i64 i6x16), (.int .i64 i6x17), (.int .i64 i6x18), (.sl s6x19 n6x19)] :: (rep 5 (.g [] true (.int .i64 i12) :: (.any :: (.g [] true (.sl s14 n14) :: (rep 94 []))))))))) fun e => (seqQ (evalE M C k30x45) (seqQ (evalE M C k30x42) (endQ [.cell 6 (.raw 20), .tmp 7, .tmp 8]))) .normal ⟨e, h⟩) = (
  J30x51 M C l3 i6x0 i6x1 i6x2 i6x3 i6x4 i6x5 i6x6 i6x7 i6x8 i6x9 i6x10 i6x11 i6x12 i6x13 i6x14 i6x15 i6x16 i6x17 i6x18 s6x19 n6x19 i12 s14 n14 h
  ) := by kernel_rfl
theorem J30x50xeq (C : Cal) (l3 : List AV) (i6x0 : Int) (i6x1 : Int) (i6x2 : Int) (i6x3 : Int) (i6x4 : Int) (i6x5 : Int) (i6x6 : Int) (i6x7 : Int) (i6x8 : Int) (i6x9 : Int) (i6x10 : Int) (i6x11 : Int) (i6x12 : Int) (i6x13 : Int) (i6x14 : Int) (i6x15 : Int) (i6x16 : Int) (i6x17 : Int) (i6x18 : Int) (s6x19 : SA) (n6x19 : Nat) (i12 : Int) (s14 : SA) (n14 : Nat) (h : Heap) : J30x50 mk0 C l3 i6x0 i6x1 i6x2 i6x3 i6x4 i6x5 i6x6 i6x7 i6x8 i6x9 i6x10 i6x11 i6x12 i6x13 i6x14 i6x15 i6x16 i6x17 i6x18 s6x19 n6x19 i12 s14 n14 h = (
  J30x51 mk0 C l3 i6x0 i6x1 i6x2 i6x3 i6x4 i6x5 i6x6 i6x7 i6x8 i6x9 i6x10 i6x11 i6x12 i6x13 i6x14 i6x15 i6x16 i6x17 i6x18 s6x19 n6x19 i12 s14 n14 h
  ) := join_eqn (seqQ (evalE mk0 C k30x45) (seqQ (evalE mk0 C k30x42) (endQ [.cell 6 (.raw 20), .tmp 7, .tmp 8]))) (rep 3 (.box l3 :: (.any :: .any :: (.box [(.int .i64 i6x0), (.int .i64 i6x1), (.int .i64 i6x2), (.int .i64 i6x3), (.int .i64 i6x4), (.int .i64 i6x5), (.int .i64 i6x6), (.int .i64 i6x7), (.int .i64 i6x8), (.int .i64 i6x9), (.int .i64 i6x10), (.int .i64 i6x11), (.int .i64 i6x12), (.int .i64 i6x13), (.int .i64 i6x14), (.int .i64 i6x15), (.int .i64 i6x16), (.int .i64 i6x17), (.int .i64 i6x18), (.sl s6x19 n6x19)] :: (rep 5 (.g [] true (.int .i64 i12) :: (.any :: (.g [] true (.sl s14 n14) :: (rep 94 []))))))))) h (J30x50xaux mk0 C l3 i6x0 i6x1 i6x2 i6x3 i6x4 i6x5 i6x6 i6x7 i6x8 i6x9 i6x10 i6x11 i6x12 i6x13 i6x14 i6x15 i6x16 i6x17 i6x18 s6x19 n6x19 i12 s14 n14 h)
theorem J30x51xaux (M : Mk) (C : Cal) (l3 : List AV) (i6x0 : Int) (i6x1 : Int) (i6x2 : Int) (i6x3 : Int) (i6x4 : Int) (i6x5 : Int) (i6x6 : Int) (i6x7 : Int) (i6x8 : Int) (i6x9 : Int) (i6x10 : Int) (i6x11 : Int) (i6x12 : Int) (i6x13 : Int) (i6x14 : Int) (i6x15 : Int) (i6x16 : Int) (i6x17 : Int) (i6x18 : Int) (s6x19 : SA) (n6x19 : Nat) (i12 : Int) (s14 : SA) (n14 : Nat) (h : Heap) : (forceK tk (rep 3 (.box l3 :: (.any :: .any :: (.box [(.int .i64 i6x0), (.int .i64 i6x1), (.int .i64 i6x2), (.int .i64 i6x3), (.int .i64 i6x4), (.int .i64 i6x5), (.int .i64 i6x6), (.int .i64 i6x7), (.int .i64 i6x8), (.int .i64 i6x9), (.int .i64 i6x10), (.int .i64 i6x11), (.int .i64 i6x12), (.int .i64 i6x13), (.int .i64 i6x14), (.int .i64 i6x15), (.int .i64 i6x16), (.int .i64 i6x17), (.int .i64 i6x18), (.sl s6x19 n6x19)] :: (rep 5 (.g [] true (.int .i64 i12) :: (.any :: (.g [] true (.sl s14 n14) :: (rep 94 []))))))))) fun e => (seqQ (evalE M C k30x42) (endQ [.cell 6 (.raw 20), .tmp 7, .tmp 8])) .normal ⟨e, h⟩) = (
  chk (true = true ∧ 19 < List.length l3) <|
  letK (List.set l3 19 (.sl s14 n14)) fun lx =>
  chk (true = true → 0 + 20 ≤ List.length lx) <|
  chk (List.length ((List.drop 0 lx).take 20) = 20 ∧ flatL ((List.drop 0 lx).take 20) = true ∧ 0 + 20 ≤ 20) <|
  letK (splice 0 ((List.drop 0 lx).take 20) [(.int .i64 i6x0), (.int .i64 i6x1), (.int .i64 i6x2), (.int .i64 i6x3), (.int .i64 i6x4), (.int .i64 i6x5), (.int .i64 i6x6), (.int .i64 i6x7), (.int .i64 i6x8), (.int .i64 i6x9), (.int .i64 i6x10), (.int .i64 i6x11), (.int .i64 i6x12), (.int .i64 i6x13), (.int .i64 i6x14), (.int .i64 i6x15), (.int .i64 i6x16), (.int .i64 i6x17), (.int .i64 i6x18), (.sl s6x19 n6x19)]) fun lx_2 =>
  chk (true = true → 0 + 20 ≤ List.length lx_2) <|
  some (.tup [(.agg ((List.drop 0 lx_2).take 20)), (.int .i64 i12), (.int .i64 0)], h)
  ) := by kernel_rfl
theorem J30x51xeq (C : Cal) (l3 : List AV) (i6x0 : Int) (i6x1 : Int) (i6x2 : Int) (i6x3 : Int) (i6x4 : Int) (i6x5 : Int) (i6x6 : Int) (i6x7 : Int) (i6x8 : Int) (i6x9 : Int) (i6x10 : Int) (i6x11 : Int) (i6x12 : Int) (i6x13 : Int) (i6x14 : Int) (i6x15 : Int) (i6x16 : Int) (i6x17 : Int) (i6x18 : Int) (s6x19 : SA) (n6x19 : Nat) (i12 : Int) (s14 : SA) (n14 : Nat) (h : Heap) : J30x51 mk0 C l3 i6x0 i6x1 i6x2 i6x3 i6x4 i6x5 i6x6 i6x7 i6x8 i6x9 i6x10 i6x11 i6x12 i6x13 i6x14 i6x15 i6x16 i6x17 i6x18 s6x19 n6x19 i12 s14 n14 h = (
  chk (true = true ∧ 19 < List.length l3) <|
  letK (List.set l3 19 (.sl s14 n14)) fun lx =>
  chk (true = true → 0 + 20 ≤ List.length lx) <|
  chk (List.length ((List.drop 0 lx).take 20) = 20 ∧ flatL ((List.drop 0 lx).take 20) = true ∧ 0 + 20 ≤ 20) <|
  letK (splice 0 ((List.drop 0 lx).take 20) [(.int .i64 i6x0), (.int .i64 i6x1), (.int .i64 i6x2), (.int .i64 i6x3), (.int .i64 i6x4), (.int .i64 i6x5), (.int .i64 i6x6), (.int .i64 i6x7), (.int .i64 i6x8), (.int .i64 i6x9), (.int .i64 i6x10), (.int .i64 i6x11), (.int .i64 i6x12), (.int .i64 i6x13), (.int .i64 i6x14), (.int .i64 i6x15), (.int .i64 i6x16), (.int .i64 i6x17), (.int .i64 i6x18), (.sl s6x19 n6x19)]) fun lx_2 =>
  chk (true = true → 0 + 20 ≤ List.length lx_2) <|
  some (.tup [(.agg ((List.drop 0 lx_2).take 20)), (.int .i64 i12), (.int .i64 0)], h)
  ) := join_eqn (seqQ (evalE mk0 C k30x42) (endQ [.cell 6 (.raw 20), .tmp 7, .tmp 8])) (rep 3 (.box l3 :: (.any :: .any :: (.box [(.int .i64 i6x0), (.int .i64 i6x1), (.int .i64 i6x2), (.int .i64 i6x3), (.int .i64 i6x4), (.int .i64 i6x5), (.int .i64 i6x6), (.int .i64 i6x7), (.int .i64 i6x8), (.int .i64 i6x9), (.int .i64 i6x10), (.int .i64 i6x11), (.int .i64 i6x12), (.int .i64 i6x13), (.int .i64 i6x14), (.int .i64 i6x15), (.int .i64 i6x16), (.int .i64 i6x17), (.int .i64 i6x18), (.sl s6x19 n6x19)] :: (rep 5 (.g [] true (.int .i64 i12) :: (.any :: (.g [] true (.sl s14 n14) :: (rep 94 []))))))))) h (J30x51xaux mk0 C l3 i6x0 i6x1 i6x2 i6x3 i6x4 i6x5 i6x6 i6x7 i6x8 i6x9 i6x10 i6x11 i6x12 i6x13 i6x14 i6x15 i6x16 i6x17 i6x18 s6x19 n6x19 i12 s14 n14 h)
end
end Go.Proofs.Ytepkdcgokedkdaa.H
